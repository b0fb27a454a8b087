/- What this text holds: the plain law of TextBoth: what a text put together is read as, and what its filter is. -/
import Derived.Test.YtpcgfadcojaceaaDoorRmBoth1
import Derived.Test.YtpcgfadcojaceaaDoorRmSpec5
set_option linter.unusedVariables false
set_option linter.unusedSimpArgs false
set_option linter.unusedSectionVars false
namespace Go.Rm

/-- The node that joins two sentences. -/
def joint (x : UInt8) (p q : Nat) : Node := ⟨if x.toNat = 124 then 6 else 5, (p : Int) - 1, ((p + q : Nat) : Int) - 1⟩
def bothNodes (x : UInt8) (ns ms : List Node) : List Node := ns ++ ms.map (shift ns.length) ++ [joint x ns.length ms.length]
def notNodes (ns : List Node) : List Node := ns ++ [⟨4, (ns.length : Int) - 1, 0⟩]
theorem joint_leaf {x : UInt8} {p q : Nat} : ¬ leafBad (joint x p q) := by
  unfold leafBad joint
  simp only
  split <;> simp
theorem bothNodes_len (x : UInt8) (ns ms : List Node) : (bothNodes x ns ms).length = ns.length + ms.length + 1 := by simp [bothNodes]; omega
theorem bothNodes_leaf {x : UInt8} {ns ms : List Node} : (∀ n ∈ bothNodes x ns ms, ¬ leafBad n) ↔ (∀ n ∈ ns, ¬ leafBad n) ∧ ∀ n ∈ ms, ¬ leafBad n := by
  unfold bothNodes
  constructor
  · intro h
    exact ⟨fun n hn => h n (by simp [hn]), fun n hn => by
      have := h (shift ns.length n) (by simp only [List.mem_append, List.mem_map]; exact .inl (.inr ⟨n, hn, rfl⟩))
      rwa [shift_leaf] at this⟩
  · rintro ⟨h1, h2⟩ n hn
    rcases List.mem_append.1 hn with hn | hn
    · rcases List.mem_append.1 hn with hn | hn
      · exact h1 n hn
      · obtain ⟨m, hm, rfl⟩ := List.mem_map.1 hn
        rw [shift_leaf]; exact h2 m hm
    · rw [List.mem_singleton] at hn; subst hn; exact joint_leaf

/-- The two texts in brackets. -/
structure Joined (s t u : ByteArray) (x : UInt8) : Prop where
  sign : x.toNat = 124 ∨ x.toNat = 38
  data : u.data.toList = 40 :: (s.data.toList ++ x :: (t.data.toList ++ [41]))
theorem Joined.size {s t u : ByteArray} {x : UInt8} (h : Joined s t u x) : u.size = s.size + t.size + 3 := by
  have e : u.data.toList.length = u.size := rfl
  rw [← e, h.data]
  have e2 : s.data.toList.length = s.size := rfl
  have e3 : t.data.toList.length = t.size := rfl
  simp only [List.length_cons, List.length_append, e2, e3, List.length_nil]; omega
theorem sign_nodig {x : UInt8} (h : x.toNat = 124 ∨ x.toNat = 38) : isDig x = false := by
  simp only [isDig, Bool.and_eq_false_iff, decide_eq_false_iff_not]; omega
theorem one_join {S T : List UInt8} {x : UInt8} {ns ms : List Node} {k1 k2 k : Nat} (hx : x.toNat = 124 ∨ x.toNat = 38) (hs : one k1 0 S = some (ns, [])) (ht : one k2 0 T = some (ms, [])) (hk : S.length + T.length + 3 < k) :
    one k 0 (40 :: (S ++ x :: (T ++ [41]))) = some (bothNodes x ns ms, []) := by
  obtain ⟨k, rfl⟩ : ∃ j, k = j + 1 := ⟨k - 1, by omega⟩
  have h1 := one_more2 _ _ _ _ _ hs (x :: (T ++ [41])) (.cons (sign_nodig hx)) k (by simp only [List.length_append, List.length_cons, List.length_nil]; omega)
  have h2 := one_more2 _ _ _ _ _ ht [41] (.cons (by decide)) k (by simp only [List.length_append, List.length_cons, List.length_nil]; omega)
  have h3 := one_shift ns.length _ _ _ _ _ h2
  have := two_ok (base := 0) (x := 40) (by rfl) h1 hx (by rw [Nat.zero_add]; exact h3) (by rfl)
  rw [this]
  simp only [bothNodes, joint, List.length_map, Nat.zero_add]
theorem one_note {S : List UInt8} {ns : List Node} {k1 k : Nat} (hs : one k1 0 S = some (ns, [])) (hk : S.length + 1 < k) : one k 0 (33 :: S) = some (notNodes ns, []) := by
  obtain ⟨k, rfl⟩ : ∃ j, k = j + 1 := ⟨k - 1, by omega⟩
  have h0 := one_more2 _ _ _ _ _ hs [] .nil k (by simp only [List.append_nil]; omega)
  rw [List.append_nil] at h0
  rw [one_not (by rfl), h0]
  simp [notNodes]
theorem Joined.one {s t u : ByteArray} {x : UInt8} {ns ms : List Node} (h : Joined s t u x) (hs : one (s.size + 1) 0 s.data.toList = some (ns, [])) (ht : one (t.size + 1) 0 t.data.toList = some (ms, [])) :
    one (u.size + 1) 0 u.data.toList = some (bothNodes x ns ms, []) := by
  have hsz := h.size
  have e2 : s.data.toList.length = s.size := rfl
  have e3 : t.data.toList.length = t.size := rfl
  rw [h.data]
  exact one_join h.sign hs ht (by omega)
theorem Joined.ok {s t u : ByteArray} {x : UInt8} {ns ms : List Node} (h : Joined s t u x) (hs : readText s = (0, ns)) (ht : readText t = (0, ms)) :
    readText u = if 400 < s.size + t.size + 3 ∨ 30 < ns.length + ms.length + 1 then (2, []) else (0, bothNodes x ns ms) := by
  obtain ⟨s1, s2, s3, s4⟩ := readText_iff.1 hs
  obtain ⟨t1, t2, t3, t4⟩ := readText_iff.1 ht
  have h1 := h.one s2 t2
  have hsz := h.size
  by_cases hl : 400 < u.size
  · rw [readText_long hl, if_pos (.inl (by omega))]
  · rw [readText_ok (by omega) h1]
    have hc := ((one_refs _ _ _ _ _ h1).2).check (one_refs _ _ _ _ _ h1).1
    rw [bothNodes_len, bothNodes_leaf] at hc
    by_cases hn : 30 < ns.length + ms.length + 1
    · have h2 : nodesCheck (bothNodes x ns ms) = 2 := by rw [nodesCheck, if_pos (.inr (by rw [bothNodes_len]; exact hn))]
      rw [if_neg (by rw [h2]; decide), if_pos (.inr hn), h2]
    · rw [if_pos (hc.2 ⟨by omega, s4, t4⟩), if_neg (by omega)]
theorem Joined.bad {s t u : ByteArray} {x : UInt8} (h : Joined s t u x) (hs : (readText s).1 = 0) (ht : (readText t).1 ≠ 0) : (readText u).1 ≠ 0 := by
  intro hu
  obtain ⟨s1, s2, s3, s4⟩ := readText_iff.1 (readText_zero hs)
  obtain ⟨u1, u2, u3, u4⟩ := readText_iff.1 (readText_zero hu)
  have hsz := h.size
  have e2 : s.data.toList.length = s.size := rfl
  have e3 : t.data.toList.length = t.size := rfl
  rw [h.data] at u2
  have h1 := one_more2 _ _ _ _ _ s2 (x :: (t.data.toList ++ [41])) (.cons (sign_nodig h.sign)) u.size (by simp only [List.length_append, List.length_cons, e2, e3, List.length_nil]; omega)
  rw [List.nil_append] at h1
  obtain ⟨c, rest, e, g | g | g | g | g⟩ := one_cases u2
  all_goals (simp only [List.cons.injEq] at e; obtain ⟨rfl, rfl⟩ := e)
  · exact absurd g.1 (by decide)
  · exact absurd g.1 (by decide)
  · exact absurd g.1 (by decide)
  · exact absurd g.1 (by decide)
  · obtain ⟨_, ns, x', r1, ms2, y, g1, g2, g3, g4, g5⟩ := g
    rw [h1] at g1
    simp only [Option.some.injEq, Prod.mk.injEq, List.cons.injEq] at g1
    obtain ⟨rfl, rfl, rfl⟩ := g1
    have g3' := g3
    obtain ⟨q, hq⟩ := one_suffix _ _ _ _ _ g3
    have hq2 := List.append_inj' hq rfl
    simp only [List.cons.injEq, and_true] at hq2
    obtain ⟨_, rfl⟩ := hq2
    have g6 := one_less _ _ t.data.toList [41] ms2 [] g3 (t.size + 1) (by omega)
    obtain ⟨ms, g7, rfl⟩ := one_unshift g6
    refine ht ?_
    rw [show readText t = (0, ms) from readText_iff.2 ⟨by omega, g7, ?_, ?_⟩]
    · rw [g5] at u3; simp only [List.length_append, List.length_map] at u3; omega
    · intro n hn
      have := u4 (shift (0 + (readText s).2.length) n) (by rw [g5]; simp only [List.mem_append, List.mem_map]; exact .inl (.inr ⟨n, hn, rfl⟩))
      rwa [shift_leaf] at this

/-- The text with a ! ahead. -/
structure Noted (s u : ByteArray) : Prop where
  data : u.data.toList = 33 :: s.data.toList
theorem Noted.size {s u : ByteArray} (h : Noted s u) : u.size = s.size + 1 := by
  have e : u.data.toList.length = u.size := rfl
  rw [← e, h.data]; rfl
theorem Noted.ok {s u : ByteArray} {ns : List Node} (h : Noted s u) (hs : readText s = (0, ns)) : readText u = if 400 < s.size + 1 ∨ 30 < ns.length + 1 then (2, []) else (0, notNodes ns) := by
  obtain ⟨s1, s2, s3, s4⟩ := readText_iff.1 hs
  have hsz := h.size
  have e2 : s.data.toList.length = s.size := rfl
  have h1 : one (u.size + 1) 0 u.data.toList = some (notNodes ns, []) := by
    rw [h.data]; exact one_note s2 (by omega)
  by_cases hl : 400 < u.size
  · rw [readText_long hl, if_pos (.inl (by omega))]
  · rw [readText_ok (by omega) h1]
    have hc := ((one_refs _ _ _ _ _ h1).2).check (one_refs _ _ _ _ _ h1).1
    have hlen : (notNodes ns).length = ns.length + 1 := by simp [notNodes]
    by_cases hn : 30 < ns.length + 1
    · have h2 : nodesCheck (notNodes ns) = 2 := by rw [nodesCheck, if_pos (.inr (by rw [hlen]; exact hn))]
      rw [if_neg (by rw [h2]; decide), if_pos (.inr hn), h2]
    · rw [if_pos (hc.2 ⟨by omega, fun n hm => ?_⟩), if_neg (by omega)]
      rcases List.mem_append.1 hm with hm | hm
      · exact s4 n hm
      · rw [List.mem_singleton] at hm; subst hm; unfold leafBad; simp

/-! ### filters -/
theorem getD_shift {α : Type} {fs gs : List α} {a : Int} {z : α} (h : 0 ≤ a) : (fs ++ gs).getD (a + (fs.length : Int)).toNat z = gs.getD a.toNat z := by
  rw [List.getD_eq_getElem?_getD, List.getD_eq_getElem?_getD, show (a + (fs.length : Int)).toNat = a.toNat + fs.length by omega, List.getElem?_append_right (by omega), Nat.add_sub_cancel]
theorem nodeFilter_shift {fs gs : List (List Box)} {i : Nat} {n : Node} (h : Ref i n) : nodeFilter (fs ++ gs) (shift fs.length n) = nodeFilter gs n := by
  rcases h with h | h | h | h | h
  · rw [shift_one (.inl h), nodeFilter, if_pos h, nodeFilter, if_pos h]
  · rw [shift_one (.inr (.inl h.1)), nodeFilter, if_neg (by omega), if_pos h.1, nodeFilter, if_neg (by omega), if_pos h.1]
  · rw [shift_one (.inr (.inr h.1)), nodeFilter, if_neg (by omega), if_neg (by omega), if_pos h.1, nodeFilter, if_neg (by omega), if_neg (by omega), if_pos h.1]
  · rw [shift, if_pos h.1, nodeFilter, if_neg (by simp), if_neg (by simp), if_neg (by simp), if_pos rfl, nodeFilter, if_neg (by omega), if_neg (by omega), if_neg (by omega), if_pos h.1]
    simp only [getD_shift h.2.1]
  · rw [shift, if_neg (by omega), if_pos h.1]
    have h1 : ¬ n.kind = 1 := by omega
    have h2 : ¬ n.kind = 2 := by omega
    have h3 : ¬ n.kind = 3 := by omega
    have h4 : ¬ n.kind = 4 := by omega
    simp only [nodeFilter, getD_shift h.2.1, getD_shift h.2.2.2.1, h1, h2, h3, h4, if_false]
theorem filtersFrom_shift {fs : List (List Box)} : ∀ (ms : List Node) (gs : List (List Box)) (b : Nat), Refs b ms → filtersFrom (fs ++ gs) (ms.map (shift fs.length)) = fs ++ filtersFrom gs ms
  | [], gs, b, _ => rfl
  | n :: ms, gs, b, h => by
    have h1 := h 0 n rfl
    rw [List.map_cons, filtersFrom, nodeFilter_shift h1, List.append_assoc, filtersFrom_shift ms _ (b + 1) (fun i m hm => by
      have := h (i + 1) m (by simpa using hm)
      rwa [show b + (i + 1) = b + 1 + i by omega] at this), filtersFrom]
theorem filtersFrom_append : ∀ (l m : List Node) (fs : List (List Box)), filtersFrom fs (l ++ m) = filtersFrom (filtersFrom fs l) m
  | [], _, _ => rfl
  | x :: l, m, fs => by rw [List.cons_append, filtersFrom, filtersFrom_append l, filtersFrom]
theorem getD_last {α : Type} (l : List α) (x z : α) (n : Nat) (h : l.length = n) : (l ++ [x]).getD n z = x := by
  subst h; rw [List.getD_eq_getElem?_getD, List.getElem?_append_right (Nat.le_refl _), Nat.sub_self]; rfl
theorem getD_app {α : Type} (l m : List α) (z : α) (n : Nat) (h : n < l.length) : (l ++ m).getD n z = l.getD n z := by
  rw [List.getD_eq_getElem?_getD, List.getD_eq_getElem?_getD, List.getElem?_append_left h]
/-- The filter of the last node. -/
def lastF (l : List Node) : List Box := (filtersOf l).getD (l.length - 1) []
theorem filterOf_last {l : List Node} (h : nodesCheck l = 0) : filterOf l = (0, lastF l) := by rw [filterOf, if_neg (by omega)]; rfl
theorem lastF_both {x : UInt8} {ns ms : List Node} (hn0 : ns ≠ []) (hm0 : ms ≠ []) (hr : Refs 0 ms) :
    lastF (bothNodes x ns ms) = if x.toNat = 124 then (joinOf (lastF ns) (lastF ms)).2 else (meetOf (lastF ns) (lastF ms)).2 := by
  have l1 := List.length_pos_iff.2 hn0
  have l2 := List.length_pos_iff.2 hm0
  rw [lastF, bothNodes_len, Nat.add_sub_cancel]
  have f1 : filtersOf (bothNodes x ns ms) = (filtersOf ns ++ filtersOf ms) ++ [nodeFilter (filtersOf ns ++ filtersOf ms) (joint x ns.length ms.length)] := by
    rw [bothNodes, filtersOf_snoc]
    have : filtersOf (ns ++ ms.map (shift ns.length)) = filtersOf ns ++ filtersOf ms := by
      rw [filtersOf, filtersFrom_append]
      have := filtersFrom_shift (fs := filtersOf ns) ms [] 0 hr
      rw [List.append_nil, filtersOf_len] at this
      exact this
    rw [this]
  rw [f1, getD_last _ _ _ _ (by rw [List.length_append, filtersOf_len, filtersOf_len])]
  have i1 : ((ns.length : Int) - 1).toNat = ns.length - 1 := by omega
  have i2 : (((ns.length + ms.length : Nat) : Int) - 1).toNat = (((ms.length - 1 : Nat) : Int) + ((filtersOf ns).length : Int)).toNat := by rw [filtersOf_len]; omega
  have g1 : (filtersOf ns ++ filtersOf ms).getD ((ns.length : Int) - 1).toNat [] = lastF ns := by rw [i1, getD_app _ _ _ _ (by rw [filtersOf_len]; omega)]; rfl
  have g2 : (filtersOf ns ++ filtersOf ms).getD (((ns.length + ms.length : Nat) : Int) - 1).toNat [] = lastF ms := by
    rw [i2, getD_shift (by omega)]; rw [show ((ms.length - 1 : Nat) : Int).toNat = ms.length - 1 by omega]; rfl
  unfold joint nodeFilter
  simp only [g1, g2]
  split
  · simp
  · simp
theorem lastF_not {ns : List Node} (hn0 : ns ≠ []) : lastF (notNodes ns) = (lessOf every (lastF ns)).2 := by
  have l1 := List.length_pos_iff.2 hn0
  have hlen : (notNodes ns).length = ns.length + 1 := by simp [notNodes]
  rw [lastF, hlen, Nat.add_sub_cancel, notNodes, filtersOf_snoc, getD_last _ _ _ _ (filtersOf_len _)]
  unfold nodeFilter
  have hl : ((ns.length : Int) - 1).toNat = ns.length - 1 := by omega
  simp only [hl]
  rfl
theorem bothOf_xor {f g : List Box} (hf : filterCheck f = 0) (hg : filterCheck g = 0) (h : TabEq f g) : bothOf (fun a b => a ^^^ b) f g = (0, []) := by
  rw [bothOf, if_neg (by omega), if_neg (by omega)]
  rw [(boxesOf_nil _).2 fun o ho => ?_]
  rw [h o ho]; exact BitVec.xor_self
theorem sameOf_of {f g : List Box} (hf : filterCheck f = 0) (hg : filterCheck g = 0) (h : TabEq f g) : sameOf f g = true := by
  rw [sameOf, bothOf_xor hf hg h]; rfl
theorem sameOf_self {f : List Box} (hf : filterCheck f = 0) : sameOf f f = true := sameOf_of hf hf fun _ _ => rfl
theorem filtersOf_each {l : List Node} (h : nodesGo 0 l = 0) : ∀ f ∈ filtersOf l, FilterOk f := fun f hf =>
  filtersOf_ok h l.length (Nat.le_refl _) f (by rw [List.take_length]; exact hf)
theorem lastF_ok {l : List Node} (h0 : l ≠ []) (h : nodesGo 0 l = 0) : filterCheck (lastF l) = 0 := by
  have hl := List.length_pos_iff.2 h0
  refine (filtersOf_each h _ ?_).to
  rw [lastF, List.getD_eq_getElem?_getD, List.getElem?_eq_getElem (by rw [filtersOf_len]; omega), Option.getD_some]
  exact List.getElem_mem _
theorem filterOf_ok {ns : List Node} (h : nodesCheck ns = 0) : filterCheck (filterOf ns).2 = 0 := by
  have hl := nodesCheck_len h
  rw [filterOf_last h]
  exact lastF_ok (fun e => by rw [e] at hl; simp at hl) (nodesCheck_go h)
theorem bothOf_one {op : BitVec 32 → BitVec 32 → BitVec 32} {f g : List Box} (hf : filterCheck f = 0) (hg : filterCheck g = 0) : (bothOf op f g).1 = 0 := by
  rw [bothOf, if_neg (by omega), if_neg (by omega)]
theorem readText_nodes {s : ByteArray} {ns : List Node} (h : readText s = (0, ns)) : ns ≠ [] ∧ Refs 0 ns ∧ nodesCheck ns = 0 := by
  obtain ⟨h1, h2, h3⟩ := readText_iff.1 h
  obtain ⟨h4, h5⟩ := one_refs _ _ _ _ _ h2
  exact ⟨h4, h5, (h5.check h4).2 h3⟩
theorem fst_cases {P : Prop} [Decidable P] {x : Int × List Node} (h : (if P then ((2 : Int), ([] : List Node)) else x).1 = 0) (hx : x.1 = 0) : ¬ P ∧ (if P then ((2 : Int), ([] : List Node)) else x) = x := by
  split at h
  · cases h
  · rename_i hp; exact ⟨hp, by rw [if_neg hp]⟩
theorem filterOf_read {s : ByteArray} (hs : (readText s).1 = 0) : (filterOf (readText s).2).1 = 0 := by rw [filterOf_last (readText_nodes (readText_zero hs)).2.2]
theorem Joined.facts {s t u : ByteArray} {x : UInt8} (h : Joined s t u x) (hs : (readText s).1 = 0) (ht : (readText t).1 = 0) :
    ((readText u).1 = 0 ∧ filterOf (readText u).2 = (0, if x.toNat = 124 then (joinOf (filterOf (readText s).2).2 (filterOf (readText t).2).2).2 else (meetOf (filterOf (readText s).2).2 (filterOf (readText t).2).2).2)) ∨
    ((readText u).1 = 2 ∧ (30 ≤ (readText s).2.length + (readText t).2.length ∨ 400 < s.size + t.size + 3)) := by
  have h1 := h.ok (readText_zero hs) (readText_zero ht)
  obtain ⟨s1, s2, s3⟩ := readText_nodes (readText_zero hs)
  obtain ⟨t1, t2, t3⟩ := readText_nodes (readText_zero ht)
  split at h1
  · rename_i hc; rw [h1]; exact .inr ⟨rfl, by omega⟩
  · obtain ⟨u1, u2, u3⟩ := readText_nodes h1
    refine .inl ⟨by rw [h1], ?_⟩
    rw [h1, filterOf_last u3, lastF_both s1 t1 t2, filterOf_last s3, filterOf_last t3]
theorem Joined.filter {s t u : ByteArray} {x : UInt8} (h : Joined s t u x) (hs : (readText s).1 = 0) (ht : (readText t).1 = 0) (hu : (readText u).1 = 0) :
    filterOf (readText u).2 = (0, if x.toNat = 124 then (joinOf (filterOf (readText s).2).2 (filterOf (readText t).2).2).2 else (meetOf (filterOf (readText s).2).2 (filterOf (readText t).2).2).2) := by
  rcases h.facts hs ht with h1 | h1
  · exact h1.2
  · omega
/-- Both texts are too large at once. -/
theorem Joined.large {s t u v : ByteArray} {x y : UInt8} (h : Joined s t u x) (h' : Joined s t v y) (hs : (readText s).1 = 0) (ht : (readText t).1 = 0) (hl : (readText u).1 ≠ 0) :
    (readText u).1 = 2 ∧ (readText v).1 = 2 ∧ (30 ≤ (readText s).2.length + (readText t).2.length ∨ 400 < s.size + t.size + 3) := by
  have h1 := h.ok (readText_zero hs) (readText_zero ht)
  have h2 := h'.ok (readText_zero hs) (readText_zero ht)
  split at h1
  · rename_i hc
    rw [if_pos hc] at h2
    rw [h1, h2]; exact ⟨rfl, rfl, by omega⟩
  · rw [h1] at hl; exact absurd rfl hl
theorem Noted.facts {s u : ByteArray} (h : Noted s u) (hs : (readText s).1 = 0) :
    ((readText u).1 = 0 ∧ filterOf (readText u).2 = (0, (lessOf every (filterOf (readText s).2).2).2)) ∨ ((readText u).1 = 2 ∧ (30 ≤ (readText s).2.length ∨ 400 ≤ s.size)) := by
  have h1 := h.ok (readText_zero hs)
  obtain ⟨s1, s2, s3⟩ := readText_nodes (readText_zero hs)
  split at h1
  · rename_i hc; rw [h1]; exact .inr ⟨rfl, by omega⟩
  · obtain ⟨u1, u2, u3⟩ := readText_nodes h1
    refine .inl ⟨by rw [h1], ?_⟩
    rw [h1, filterOf_last u3, lastF_not s1, filterOf_last s3]
theorem Noted.filter {s u : ByteArray} (h : Noted s u) (hs : (readText s).1 = 0) (hu : (readText u).1 = 0) : filterOf (readText u).2 = (0, (lessOf every (filterOf (readText s).2).2).2) := by
  rcases h.facts hs with h1 | h1
  · exact h1.2
  · omega
theorem Noted.large {s u : ByteArray} (h : Noted s u) (hs : (readText s).1 = 0) (hu : (readText u).1 ≠ 0) : 30 ≤ (readText s).2.length ∨ 400 ≤ s.size := by
  rcases h.facts hs with h1 | h1
  · exact absurd h1.1 hu
  · exact h1.2
theorem Joined.pair {s t u v : ByteArray} {x y : UInt8} (h : Joined s t u x) (h' : Joined s t v y) (hs : (readText s).1 = 0) (ht : (readText t).1 = 0) :
    ((readText u).1 = 0 ∧ (readText v).1 = 0) ∨ ((readText u).1 = 2 ∧ (readText v).1 = 2 ∧ (30 ≤ (readText s).2.length + (readText t).2.length ∨ 400 < s.size + t.size + 3)) := by
  by_cases h1 : (readText u).1 = 0
  · by_cases h2 : (readText v).1 = 0
    · exact .inl ⟨h1, h2⟩
    · have := h'.large h hs ht h2; omega
  · exact .inr (h.large h' hs ht h1)
theorem Noted.pair {s u : ByteArray} (h : Noted s u) (hs : (readText s).1 = 0) : (readText u).1 = 0 ∨ 30 ≤ (readText s).2.length ∨ 400 ≤ s.size := by
  by_cases h1 : (readText u).1 = 0
  · exact .inl h1
  · exact .inr (h.large hs h1)
theorem same_refl (op : BitVec 32 → BitVec 32 → BitVec 32) (f g : List Box) : sameOf (bothOf op f g).2 (bothOf op f g).2 = true := sameOf_self (bothOf_ok op f g).to
theorem app_data (a b : ByteArray) : (a ++ b).data.toList = a.data.toList ++ b.data.toList := by simp [ByteArray.data_append]
theorem joined_38 (s t : ByteArray) : Joined s t ((⟨#[40]⟩ : ByteArray) ++ s ++ ⟨#[38]⟩ ++ t ++ ⟨#[41]⟩) 38 := ⟨.inr rfl, by simp only [app_data]; simp⟩
theorem joined_124 (s t : ByteArray) : Joined s t ((⟨#[40]⟩ : ByteArray) ++ s ++ ⟨#[124]⟩ ++ t ++ ⟨#[41]⟩) 124 := ⟨.inl rfl, by simp only [app_data]; simp⟩
theorem noted_33 (s : ByteArray) : Noted s ((⟨#[33]⟩ : ByteArray) ++ s) := ⟨by simp only [app_data]; simp⟩
theorem same_get {α : Type} (n : Nat) (v : α) {k : Nat} (h : k < n) : (List.replicate n v)[0 + k * 1]? = some v := by
  rw [Nat.zero_add, Nat.mul_one, List.getElem?_replicate, if_pos h]
end Go.Rm
