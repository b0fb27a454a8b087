/- What this text holds: the plain law of TextBack: how a sentence is shown, and that it is read again. -/
import Derived.Test.YtpcgfadcojaceaaDoorRmBoth2
import Derived.Test.YtpcgfadcojaceaaDoorRmSpec6
set_option linter.unusedVariables false
set_option linter.unusedSimpArgs false
set_option linter.unusedSectionVars false
namespace Go.Rm

abbrev Bytes := List UInt8
def dec (n : Int) : Bytes := Lib.decDigits n.toNat
/-- What is longer than a text may be is cut. -/
def cutText (l : Bytes) : Bytes := if 400 < l.length then l.take 401 else l
def nodeText (ts : List Bytes) (n : Node) : Bytes :=
  if n.kind = 1 then [42]
  else if n.kind = 2 then 35 :: dec n.a
  else if n.kind = 3 then 91 :: (dec n.a ++ 44 :: (dec n.b ++ [41]))
  else if n.kind = 4 then 33 :: ts.getD n.a.toNat []
  else if n.kind = 5 then 40 :: (ts.getD n.a.toNat [] ++ 38 :: (ts.getD n.b.toNat [] ++ [41]))
  else 40 :: (ts.getD n.a.toNat [] ++ 124 :: (ts.getD n.b.toNat [] ++ [41]))
def textsFrom : List Bytes → List Node → List Bytes
  | ts, [] => ts
  | ts, n :: r => textsFrom (ts ++ [cutText (nodeText ts n)]) r
def textsOf (l : List Node) : List Bytes := textsFrom [] l
theorem textsFrom_snoc : ∀ (l : List Node) (ts : List Bytes) (n : Node), textsFrom ts (l ++ [n]) = textsFrom ts l ++ [cutText (nodeText (textsFrom ts l) n)]
  | [], ts, n => rfl
  | x :: l, ts, n => by rw [List.cons_append, textsFrom, textsFrom, textsFrom_snoc l]
theorem textsOf_snoc (l : List Node) (n : Node) : textsOf (l ++ [n]) = textsOf l ++ [cutText (nodeText (textsOf l) n)] := textsFrom_snoc l [] n
theorem textsFrom_len : ∀ (l : List Node) (ts : List Bytes), (textsFrom ts l).length = ts.length + l.length
  | [], ts => rfl
  | x :: l, ts => by rw [textsFrom, textsFrom_len l]; simp; omega
theorem textsOf_len (l : List Node) : (textsOf l).length = l.length := by rw [textsOf, textsFrom_len]; simp
theorem textsOf_take {l : List Node} {i : Nat} {x : Node} (hx : l[i]? = some x) : textsOf (l.take (i + 1)) = textsOf (l.take i) ++ [cutText (nodeText (textsOf (l.take i)) x)] := by
  rw [take_snoc hx, textsOf_snoc]
def lastT (l : List Node) : Bytes := (textsOf l).getD (l.length - 1) []
/-- What text.Show answers. -/
def showText (l : List Node) : Int × Bytes := if nodesCheck l ≠ 0 then (nodesCheck l, []) else if 400 < (lastT l).length then (2, []) else (0, lastT l)
theorem cutText_len (l : Bytes) : (cutText l).length ≤ 401 := by
  unfold cutText; split
  · rw [List.length_take]; omega
  · omega
theorem cutText_short {l : Bytes} (h : (cutText l).length ≤ 400) : cutText l = l := by
  unfold cutText at h ⊢
  split
  · rename_i h1; rw [if_pos h1, List.length_take] at h; omega
  · rfl
theorem cutText_id {l : Bytes} (h : l.length ≤ 400) : cutText l = l := by rw [cutText, if_neg (by omega)]

/-! ### what is read is shown as it was -/
theorem nodeText_shift {fs gs : List Bytes} {i : Nat} {n : Node} (h : Ref i n) : nodeText (fs ++ gs) (shift fs.length n) = nodeText gs n := by
  rcases h with h | h | h | h | h
  · rw [shift_one (.inl h), nodeText, if_pos h, nodeText, if_pos h]
  · rw [shift_one (.inr (.inl h.1)), nodeText, if_neg (by omega), if_pos h.1, nodeText, if_neg (by omega), if_pos h.1]
  · rw [shift_one (.inr (.inr h.1)), nodeText, if_neg (by omega), if_neg (by omega), if_pos h.1, nodeText, if_neg (by omega), if_neg (by omega), if_pos h.1]
  · rw [shift, if_pos h.1, nodeText, if_neg (by simp), if_neg (by simp), if_neg (by simp), if_pos rfl, nodeText, if_neg (by omega), if_neg (by omega), if_neg (by omega), if_pos h.1]
    simp only [getD_shift h.2.1]
  · rw [shift, if_neg (by omega), if_pos h.1]
    have h1 : ¬ n.kind = 1 := by omega
    have h2 : ¬ n.kind = 2 := by omega
    have h3 : ¬ n.kind = 3 := by omega
    have h4 : ¬ n.kind = 4 := by omega
    simp only [nodeText, getD_shift h.2.1, getD_shift h.2.2.2.1, h1, h2, h3, h4, if_false]
theorem textsFrom_shift {fs : List Bytes} : ∀ (ms : List Node) (gs : List Bytes) (b : Nat), Refs b ms → textsFrom (fs ++ gs) (ms.map (shift fs.length)) = fs ++ textsFrom gs ms
  | [], gs, b, _ => rfl
  | n :: ms, gs, b, h => by
    have h1 := h 0 n rfl
    rw [List.map_cons, textsFrom, nodeText_shift h1, List.append_assoc, textsFrom_shift ms _ (b + 1) (fun i m hm => by
      have := h (i + 1) m (by simpa using hm)
      rwa [show b + (i + 1) = b + 1 + i by omega] at this), textsFrom]
theorem textsFrom_append : ∀ (l m : List Node) (fs : List Bytes), textsFrom fs (l ++ m) = textsFrom (textsFrom fs l) m
  | [], _, _ => rfl
  | x :: l, m, fs => by rw [List.cons_append, textsFrom, textsFrom_append l, textsFrom]
theorem lastT_both {x : UInt8} {ns ms : List Node} (hx : x.toNat = 124 ∨ x.toNat = 38) (hn0 : ns ≠ []) (hm0 : ms ≠ []) (hr : Refs 0 ms) : lastT (bothNodes x ns ms) = cutText (40 :: (lastT ns ++ x :: (lastT ms ++ [41]))) := by
  have l1 := List.length_pos_iff.2 hn0
  have l2 := List.length_pos_iff.2 hm0
  rw [lastT, bothNodes_len, Nat.add_sub_cancel]
  have f1 : textsOf (bothNodes x ns ms) = (textsOf ns ++ textsOf ms) ++ [cutText (nodeText (textsOf ns ++ textsOf ms) (joint x ns.length ms.length))] := by
    rw [bothNodes, textsOf_snoc]
    have : textsOf (ns ++ ms.map (shift ns.length)) = textsOf ns ++ textsOf ms := by
      rw [textsOf, textsFrom_append]
      have := textsFrom_shift (fs := textsOf ns) ms [] 0 hr
      rw [List.append_nil, textsOf_len] at this
      exact this
    rw [this]
  rw [f1, getD_last _ _ _ _ (by rw [List.length_append, textsOf_len, textsOf_len])]
  have i1 : ((ns.length : Int) - 1).toNat = ns.length - 1 := by omega
  have i2 : (((ns.length + ms.length : Nat) : Int) - 1).toNat = (((ms.length - 1 : Nat) : Int) + ((textsOf ns).length : Int)).toNat := by rw [textsOf_len]; omega
  have g1 : (textsOf ns ++ textsOf ms).getD ((ns.length : Int) - 1).toNat [] = lastT ns := by rw [i1, getD_app _ _ _ _ (by rw [textsOf_len]; omega)]; rfl
  have g2 : (textsOf ns ++ textsOf ms).getD (((ns.length + ms.length : Nat) : Int) - 1).toNat [] = lastT ms := by
    rw [i2, getD_shift (by omega)]; rw [show ((ms.length - 1 : Nat) : Int).toNat = ms.length - 1 by omega]; rfl
  unfold joint nodeText
  simp only [g1, g2]
  rcases hx with hx | hx
  · rw [if_pos hx]; simp only [show x = 124 from UInt8.toNat_inj.1 hx]; rfl
  · rw [if_neg (by omega)]; simp only [show x = 38 from UInt8.toNat_inj.1 hx]; rfl
theorem lastT_not {ns : List Node} (hn0 : ns ≠ []) : lastT (notNodes ns) = cutText (33 :: lastT ns) := by
  have l1 := List.length_pos_iff.2 hn0
  have hlen : (notNodes ns).length = ns.length + 1 := by simp [notNodes]
  rw [lastT, hlen, Nat.add_sub_cancel, notNodes, textsOf_snoc, getD_last _ _ _ _ (textsOf_len _)]
  unfold nodeText
  have hl : ((ns.length : Int) - 1).toNat = ns.length - 1 := by omega
  simp only [hl]
  rfl
theorem numeral_dec {ds : Bytes} {n : Nat} (hd : ∀ x ∈ ds, isDig x = true) (h : numeral ds = some n) : Lib.decDigits n = ds := by
  match ds, h with
  | [a], h => simp only [numeral, Option.some.injEq] at h; subst h; exact itoa_one (hd a (by simp))
  | [a, b], h =>
    simp only [numeral] at h
    split at h
    · cases h
    · rename_i h0; simp only [Option.some.injEq] at h; subst h; exact itoa_two (hd a (by simp)) (hd b (by simp)) h0
theorem number_dec {l r : Bytes} {n : Nat} (h : number l = some (n, r)) : l = Lib.decDigits n ++ r := by
  obtain ⟨ds, e, hd, _, hn⟩ := number_parts h
  rw [numeral_dec hd hn]; exact e
theorem toNat_eq {x : UInt8} {n : Nat} (y : UInt8) (h : x.toNat = n) (hy : y.toNat = n) : x = y := UInt8.toNat_inj.1 (h.trans hy.symm)
theorem one_shown : ∀ (k : Nat) (l : Bytes) (ms : List Node) (r : Bytes), one k 0 l = some (ms, r) → l.length ≤ 400 → l = lastT ms ++ r
  | 0, _, _, _, h, _ => by cases h
  | k + 1, l, ms, r, h, hl => by
    obtain ⟨c, rest, rfl, h | h | h | h | h⟩ := one_cases h
    · obtain ⟨hc, rfl, rfl⟩ := h
      rw [toNat_eq 42 hc rfl]; rfl
    · obtain ⟨hc, n, hn, rfl⟩ := h
      rw [toNat_eq 35 hc rfl] at hl ⊢
      have e := number_dec hn
      have h1 : lastT [⟨2, n, 0⟩] = cutText (35 :: Lib.decDigits n) := rfl
      rw [h1, cutText_id (by rw [e] at hl; simp only [List.length_cons, List.length_append] at hl ⊢; omega), List.cons_append, ← e]
    · obtain ⟨hc, a, b, x, r1, y, hn, hx, hn2, hy, rfl⟩ := h
      rw [toNat_eq 91 hc rfl] at hl ⊢
      rw [toNat_eq 44 hx rfl] at hn
      rw [toNat_eq 41 hy rfl] at hn2
      have e := number_dec hn
      have e2 := number_dec hn2
      rw [e2] at e
      have h1 : lastT [⟨3, a, b⟩] = cutText (91 :: (Lib.decDigits a ++ 44 :: (Lib.decDigits b ++ [41]))) := rfl
      rw [e] at hl ⊢
      simp only [List.length_cons, List.length_append] at hl
      rw [h1, cutText_id (by simp only [List.length_cons, List.length_append, List.length_nil]; omega)]
      simp
    · obtain ⟨hc, ns, hn, rfl⟩ := h
      rw [toNat_eq 33 hc rfl] at hl ⊢
      simp only [List.length_cons] at hl
      have e := one_shown k rest ns r hn (by omega)
      have h0 := (one_refs _ _ _ _ _ hn).1
      have h1 : lastT (ns ++ [⟨4, ((0 + ns.length : Nat) : Int) - 1, 0⟩]) = cutText (33 :: lastT ns) := by rw [Nat.zero_add]; exact lastT_not h0
      have hl2 : rest.length = (lastT ns).length + r.length := by rw [← List.length_append, ← e]
      rw [h1, cutText_id (by simp only [List.length_cons]; omega), List.cons_append, ← e]
    · obtain ⟨hc, ns, x, r1, ms2, y, hn, hx, hn2, hy, rfl⟩ := h
      rw [toNat_eq 40 hc rfl] at hl ⊢
      rw [toNat_eq 41 hy rfl] at hn2
      simp only [List.length_cons] at hl
      have e := one_shown k rest ns _ hn (by omega)
      have hl2 : rest.length = (lastT ns).length + (r1.length + 1) := by rw [← List.length_cons, ← List.length_append, ← e]
      rw [Nat.zero_add] at hn2
      obtain ⟨ms', hn3, rfl⟩ := one_unshift hn2
      have e2 := one_shown k r1 ms' _ hn3 (by omega)
      have hl3 : r1.length = (lastT ms').length + (r.length + 1) := by rw [← List.length_cons, ← List.length_append, ← e2]
      obtain ⟨h0, _⟩ := one_refs _ _ _ _ _ hn
      obtain ⟨h2, h3⟩ := one_refs _ _ _ _ _ hn3
      have h1 : lastT (ns ++ ms'.map (shift ns.length) ++ [⟨if x.toNat = 124 then 6 else 5, ((0 + ns.length : Nat) : Int) - 1, ((0 + ns.length + (ms'.map (shift ns.length)).length : Nat) : Int) - 1⟩]) = cutText (40 :: (lastT ns ++ x :: (lastT ms' ++ [41]))) := by
        rw [Nat.zero_add, List.length_map]; exact lastT_both hx h0 h2 h3
      rw [h1, cutText_id (by simp only [List.length_cons, List.length_append, List.length_nil]; omega), e]
      rw [e2]
      simp
theorem show_read {s : ByteArray} {ms : List Node} (h : readText s = (0, ms)) : showText ms = (0, s.data.toList) := by
  obtain ⟨h1, h2, _⟩ := readText_iff.1 h
  obtain ⟨_, _, h5⟩ := readText_nodes h
  have hl : s.data.toList.length = s.size := rfl
  have := one_shown _ _ _ _ h2 (by omega)
  rw [List.append_nil] at this
  rw [showText, if_neg (by omega), ← this, if_neg (by omega)]

/-! ### what is shown is read as a sentence that says the same -/
theorem TabEq.both {op : BitVec 32 → BitVec 32 → BitVec 32} {f f' g g' : List Box} (hf : filterCheck f = 0) (hf' : filterCheck f' = 0) (hg : filterCheck g = 0) (hg' : filterCheck g' = 0) (h : TabEq f f') (h' : TabEq g g') : TabEq (bothOf op f g).2 (bothOf op f' g').2 := by
  intro o ho
  rw [bothOf, if_neg (by omega), if_neg (by omega), bothOf, if_neg (by omega), if_neg (by omega)]
  exact boxesOf_congr (fun i hi => by rw [h i hi, h' i hi]) o ho
theorem dec_dig : ∀ (n : Nat), n < 100 → (∀ x ∈ Lib.decDigits n, isDig x = true) ∧ numeral (Lib.decDigits n) = some n := by
  intro n hn
  rcases Nat.lt_or_ge n 10 with h | h
  · rw [dec_one h]
    have hb : (UInt8.ofNat (48 + n)).toNat = 48 + n := by rw [UInt8.toNat_ofNat']; omega
    refine ⟨fun x hx => ?_, ?_⟩
    · rw [List.mem_singleton] at hx; subst hx
      simp only [isDig, hb, Bool.and_eq_true, decide_eq_true_eq]; omega
    · simp only [numeral, hb, Option.some.injEq]; omega
  · rw [dec_two h hn]
    have hb : (UInt8.ofNat (48 + n / 10)).toNat = 48 + n / 10 := by rw [UInt8.toNat_ofNat']; omega
    have hb2 : (UInt8.ofNat (48 + n % 10)).toNat = 48 + n % 10 := by rw [UInt8.toNat_ofNat']; omega
    refine ⟨fun x hx => ?_, ?_⟩
    · simp only [List.mem_cons, List.not_mem_nil, or_false] at hx
      rcases hx with rfl | rfl
      · simp only [isDig, hb, Bool.and_eq_true, decide_eq_true_eq]; omega
      · simp only [isDig, hb2, Bool.and_eq_true, decide_eq_true_eq]; omega
    · simp only [numeral, hb, hb2]
      rw [if_neg (by omega)]
      simp only [Option.some.injEq]; omega
theorem number_of_dec {n : Nat} {r : Bytes} (hn : n < 100) (hr : NoDig r) : number (Lib.decDigits n ++ r) = some (n, r) := by
  obtain ⟨h1, h2⟩ := dec_dig n hn
  exact number_of h1 hr h2
/-- A text of which the sentence's filter is like another one. -/
structure Reads (t : Bytes) (f : List Box) (ms : List Node) : Prop where
  parse : ∃ k, one k 0 t = some (ms, [])
  fine : ∀ n ∈ ms, ¬ leafBad n
  same : TabEq (lastF ms) f
theorem Reads.go {t : Bytes} {f : List Box} {ms : List Node} (h : Reads t f ms) : ms ≠ [] ∧ Refs 0 ms ∧ nodesGo 0 ms = 0 := by
  obtain ⟨k, h1⟩ := h.parse
  obtain ⟨h2, h3⟩ := one_refs _ _ _ _ _ h1
  exact ⟨h2, h3, (nodesGo_iff _ _).2 fun i n hn => (h3 i n hn).bad.2 (h.fine n (List.mem_of_getElem? hn))⟩
theorem TabEq.refl (f : List Box) : TabEq f f := fun _ _ => rfl
theorem texts_read {l : List Node} (hl : nodesGo 0 l = 0) : ∀ (i : Nat), i ≤ l.length → ∀ (j : Nat) (t : Bytes) (f : List Box), (textsOf (l.take i))[j]? = some t → (filtersOf (l.take i))[j]? = some f → t.length ≤ 400 → ∃ ms, Reads t f ms
  | 0, _, j, t, f, ht, _, _ => by simp [textsOf, textsFrom] at ht
  | i + 1, hi, j, t, f, ht, hf, hlt => by
    obtain ⟨x, hx⟩ : ∃ x, l[i]? = some x := ⟨l[i]'(by omega), List.getElem?_eq_getElem _⟩
    have hlen : (l.take i).length = i := by rw [List.length_take]; omega
    rw [textsOf_take hx] at ht
    rw [filtersOf_take hx] at hf
    rcases Nat.lt_or_ge j i with hji | hji
    · rw [List.getElem?_append_left (by rw [textsOf_len]; omega)] at ht
      rw [List.getElem?_append_left (by rw [filtersOf_len]; omega)] at hf
      exact texts_read hl i (by omega) j t f ht hf hlt
    · have hj : j = i := by
        rcases Nat.lt_or_ge i j with h | h
        · rw [List.getElem?_eq_none (by rw [List.length_append, textsOf_len, List.length_singleton]; omega)] at ht; cases ht
        · omega
      subst hj
      rw [List.getElem?_append_right (by rw [textsOf_len]; omega), textsOf_len, hlen, Nat.sub_self, List.getElem?_cons_zero, Option.some.injEq] at ht
      rw [List.getElem?_append_right (by rw [filtersOf_len]; omega), filtersOf_len, hlen, Nat.sub_self, List.getElem?_cons_zero, Option.some.injEq] at hf
      subst hf
      have hcut : t = nodeText (textsOf (l.take j)) x := by
        subst ht; exact cutText_short hlt
      subst hcut
      have hbad := nodesGo_each hl hx
      have sub : ∀ a : Int, 0 ≤ a → a < j → ∃ ta fa, (textsOf (l.take j)).getD a.toNat [] = ta ∧ (filtersOf (l.take j)).getD a.toNat [] = fa ∧ (ta.length ≤ 400 → ∃ ms, Reads ta fa ms) ∧ filterCheck fa = 0 := by
        intro a h0 h1
        refine ⟨_, _, rfl, rfl, fun h400 => ?_, ?_⟩
        · refine texts_read hl j (by omega) a.toNat _ _ ?_ ?_ h400
          · rw [List.getD_eq_getElem?_getD, List.getElem?_eq_getElem (by rw [textsOf_len]; omega)]; rfl
          · rw [List.getD_eq_getElem?_getD, List.getElem?_eq_getElem (by rw [filtersOf_len]; omega)]; rfl
        · refine (filtersOf_ok hl j (by omega) _ ?_).to
          rw [List.getD_eq_getElem?_getD, List.getElem?_eq_getElem (by rw [filtersOf_len]; omega), Option.getD_some]
          exact List.getElem_mem _
      have hk := bad_kind hbad
      rcases hk with hk | hk | hk | hk | hk | hk
      · refine ⟨[⟨1, 0, 0⟩], ⟨1, ?_⟩, ?_, ?_⟩
        · rw [nodeText, if_pos hk]; rfl
        · intro n hn; rw [List.mem_singleton] at hn; subst hn; unfold leafBad; simp
        · rw [nodeFilter, if_pos hk]; exact TabEq.refl _
      · obtain ⟨h0, h1⟩ := bad_tag hbad hk
        obtain ⟨a, ha⟩ := Int.eq_ofNat_of_zero_le h0
        have ha2 : x.a.toNat = a := by rw [ha]; rfl
        refine ⟨[⟨2, a, 0⟩], ⟨1, ?_⟩, ?_, ?_⟩
        · have := number_of_dec (n := a) (r := []) (by omega) .nil
          rw [List.append_nil] at this
          rw [nodeText, if_neg (by omega), if_pos hk, dec, ha2, one_tag rfl, this]
        · intro n hn; rw [List.mem_singleton] at hn; subst hn; unfold leafBad; simp; omega
        · rw [nodeFilter, if_neg (by omega), if_pos hk, ha2]; exact TabEq.refl _
      · have h3 : 0 ≤ x.a ∧ x.a < x.b ∧ x.b ≤ 32 := by
          rw [nodeBad, if_neg (by omega), if_neg (by omega), if_pos hk] at hbad
          split at hbad
          · cases hbad
          · omega
        obtain ⟨a, ha⟩ := Int.eq_ofNat_of_zero_le h3.1
        obtain ⟨b, hb⟩ := Int.eq_ofNat_of_zero_le (show 0 ≤ x.b by omega)
        have ha2 : x.a.toNat = a := by rw [ha]; rfl
        have hb2 : x.b.toNat = b := by rw [hb]; rfl
        refine ⟨[⟨3, a, b⟩], ⟨1, ?_⟩, ?_, ?_⟩
        · rw [nodeText, if_neg (by omega), if_neg (by omega), if_pos hk, dec, dec, ha2, hb2]
          exact in_ok (x := 91) (y := 44) (z := 41) rfl (number_of_dec (by omega) (.cons (by decide))) rfl (number_of_dec (by omega) (.cons (by decide))) rfl
        · intro n hn; rw [List.mem_singleton] at hn; subst hn; unfold leafBad; simp; omega
        · rw [nodeFilter, if_neg (by omega), if_neg (by omega), if_pos hk, ha, hb]; exact TabEq.refl _
      · obtain ⟨h0, h1⟩ := bad_not hbad hk
        obtain ⟨ta, fa, e1, e2, hms, hfa⟩ := sub x.a h0 h1
        have et : nodeText (textsOf (l.take j)) x = 33 :: ta := by rw [nodeText, if_neg (by omega), if_neg (by omega), if_neg (by omega), if_pos hk, e1]
        have ef : nodeFilter (filtersOf (l.take j)) x = (lessOf every fa).2 := by rw [nodeFilter, if_neg (by omega), if_neg (by omega), if_neg (by omega), if_pos hk, e2]
        rw [et] at ht hlt ⊢
        rw [ef]
        simp only [List.length_cons] at hlt
        obtain ⟨ms, hr⟩ := hms (by omega)
        obtain ⟨g1, g2, g3⟩ := hr.go
        obtain ⟨k, hp⟩ := hr.parse
        refine ⟨notNodes ms, ⟨_, one_note hp (Nat.lt_succ_self _)⟩, ?_, ?_⟩
        · intro n hn
          rcases List.mem_append.1 hn with hn | hn
          · exact hr.fine n hn
          · rw [List.mem_singleton] at hn; subst hn; unfold leafBad; simp
        · rw [lastF_not g1]
          exact TabEq.both every_ok.to every_ok.to (lastF_ok g1 g3) hfa (TabEq.refl _) hr.same
      all_goals
        obtain ⟨h0, h1, h2, h3⟩ := bad_two hbad (by omega)
        obtain ⟨ta, fa, e1, e2, hms, hfa⟩ := sub x.a h0 h1
        obtain ⟨tb, fb, e3, e4, hms2, hfb⟩ := sub x.b h2 h3
      · have et : nodeText (textsOf (l.take j)) x = 40 :: (ta ++ 38 :: (tb ++ [41])) := by rw [nodeText, if_neg (by omega), if_neg (by omega), if_neg (by omega), if_neg (by omega), if_pos hk, e1, e3]
        have ef : nodeFilter (filtersOf (l.take j)) x = (meetOf fa fb).2 := by rw [nodeFilter, if_neg (by omega), if_neg (by omega), if_neg (by omega), if_neg (by omega), if_pos hk, e2, e4]
        rw [et] at ht hlt ⊢
        rw [ef]
        simp only [List.length_cons, List.length_append, List.length_nil] at hlt
        obtain ⟨ms, hr⟩ := hms (by omega)
        obtain ⟨ms2, hr2⟩ := hms2 (by omega)
        obtain ⟨g1, g2, g3⟩ := hr.go
        obtain ⟨g4, g5, g6⟩ := hr2.go
        obtain ⟨k, hp⟩ := hr.parse
        obtain ⟨k2, hp2⟩ := hr2.parse
        refine ⟨bothNodes 38 ms ms2, ⟨_, one_join (.inr rfl) hp hp2 (Nat.lt_succ_self _)⟩, bothNodes_leaf.2 ⟨hr.fine, hr2.fine⟩, ?_⟩
        rw [lastF_both g1 g4 g5, if_neg (by decide)]
        exact TabEq.both (lastF_ok g1 g3) hfa (lastF_ok g4 g6) hfb hr.same hr2.same
      · have et : nodeText (textsOf (l.take j)) x = 40 :: (ta ++ 124 :: (tb ++ [41])) := by rw [nodeText, if_neg (by omega), if_neg (by omega), if_neg (by omega), if_neg (by omega), if_neg (by omega), e1, e3]
        have ef : nodeFilter (filtersOf (l.take j)) x = (joinOf fa fb).2 := by rw [nodeFilter, if_neg (by omega), if_neg (by omega), if_neg (by omega), if_neg (by omega), if_neg (by omega), e2, e4]
        rw [et] at ht hlt ⊢
        rw [ef]
        simp only [List.length_cons, List.length_append, List.length_nil] at hlt
        obtain ⟨ms, hr⟩ := hms (by omega)
        obtain ⟨ms2, hr2⟩ := hms2 (by omega)
        obtain ⟨g1, g2, g3⟩ := hr.go
        obtain ⟨g4, g5, g6⟩ := hr2.go
        obtain ⟨k, hp⟩ := hr.parse
        obtain ⟨k2, hp2⟩ := hr2.parse
        refine ⟨bothNodes 124 ms ms2, ⟨_, one_join (.inl rfl) hp hp2 (Nat.lt_succ_self _)⟩, bothNodes_leaf.2 ⟨hr.fine, hr2.fine⟩, ?_⟩
        rw [lastF_both g1 g4 g5, if_pos (by decide)]
        exact TabEq.both (lastF_ok g1 g3) hfa (lastF_ok g4 g6) hfb hr.same hr2.same
/-- What is shown is read, or it is too large; and says the same. -/
theorem read_show {l : List Node} {t : Bytes} (h : showText l = (0, t)) : (∃ ms, readText ⟨t.toArray⟩ = (0, ms) ∧ sameOf (filterOf l).2 (filterOf ms).2 = true ∧ (filterOf l).1 = 0 ∧ (filterOf ms).1 = 0) ∨ (readText ⟨t.toArray⟩).1 = 2 := by
  unfold showText at h
  split at h
  · rename_i h0
    simp only [Prod.mk.injEq] at h; exact absurd h.1 h0
  · rename_i h0
    have h0 : nodesCheck l = 0 := by omega
    split at h
    · cases h
    · rename_i h1
      simp only [Prod.mk.injEq, true_and] at h
      subst h
      have hl := nodesCheck_len h0
      have hgo := nodesCheck_go h0
      have hT : (textsOf l)[l.length - 1]? = some (lastT l) := by
        rw [lastT, List.getD_eq_getElem?_getD, List.getElem?_eq_getElem (by rw [textsOf_len]; omega)]; rfl
      have hF : (filtersOf l)[l.length - 1]? = some (lastF l) := by
        rw [lastF, List.getD_eq_getElem?_getD, List.getElem?_eq_getElem (by rw [filtersOf_len]; omega)]; rfl
      obtain ⟨ms, hr⟩ := texts_read hgo l.length (Nat.le_refl _) (l.length - 1) (lastT l) (lastF l) (by rw [List.take_length]; exact hT) (by rw [List.take_length]; exact hF) (by omega)
      obtain ⟨k, hp⟩ := hr.parse
      obtain ⟨g1, g2, g3⟩ := hr.go
      have hsz : (⟨(lastT l).toArray⟩ : ByteArray).size = (lastT l).length := by simp [ByteArray.size]
      have hp2 := one_more2 _ _ _ _ _ hp [] .nil ((⟨(lastT l).toArray⟩ : ByteArray).size + 1) (by rw [List.append_nil, hsz]; omega)
      rw [List.append_nil] at hp2
      have hd : (⟨(lastT l).toArray⟩ : ByteArray).data.toList = lastT l := by simp
      by_cases h30 : ms.length ≤ 30
      · have hread : readText ⟨(lastT l).toArray⟩ = (0, ms) := readText_iff.2 ⟨by omega, by rw [hd]; exact hp2, h30, hr.fine⟩
        have hc := (g2.check g1).2 ⟨h30, hr.fine⟩
        refine .inl ⟨ms, hread, ?_, by rw [filterOf_last h0], by rw [filterOf_last hc]⟩
        rw [filterOf_last h0, filterOf_last hc]
        exact sameOf_of (lastF_ok (fun e => by rw [e] at hl; simp at hl) hgo) (lastF_ok g1 g3) fun o ho => (hr.same o ho).symm
      · refine .inr ?_
        have h2 : nodesCheck ms = 2 := by rw [nodesCheck, if_pos (.inr (by omega))]
        rw [readText_ok (by omega) (by rw [hd]; exact hp2), if_neg (by rw [h2]; decide)]
        exact h2
end Go.Rm
