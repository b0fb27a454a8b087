/- What this text holds: how the program's data lie in memory: integers, texts, slices, and the structs of package api. -/
import Derived.Test.YtpcgfadcojaceaaDoorRmMem
set_option linter.unusedVariables false
set_option linter.unusedSimpArgs false
set_option linter.unusedSectionVars false
namespace Go.Rm
open Go

/-- Data of a Go type: how many cells, and what they hold. -/
structure Shape (α : Type) where
  k : Nat
  cells : PHeap → α → List Value → Prop
  len : ∀ {I x cs}, cells I x cs → cs.length = k
  le : ∀ {I J x cs}, PLe I J → cells I x cs → cells J x cs
  one : ∀ {I x cs}, cells I x cs → ∀ u ∈ cs, u.oneCell' = true
/-- A type whose shape is known. -/
abbrev RepC (α : Type) := Inhabited (Shape α)
abbrev RepC.k (α : Type) [h : RepC α] : Nat := h.default.k
abbrev RepC.cells {α : Type} [h : RepC α] : PHeap → α → List Value → Prop := h.default.cells
theorem RepC.len {α : Type} [h : RepC α] {I : PHeap} {x : α} {cs : List Value} (hc : RepC.cells I x cs) : cs.length = RepC.k α := h.default.len hc
theorem RepC.le {α : Type} [h : RepC α] {I J : PHeap} {x : α} {cs : List Value} (hl : PLe I J) (hc : RepC.cells I x cs) : RepC.cells J x cs := h.default.le hl hc

theorem RepC.one {α : Type} [h : RepC α] {I : PHeap} {x : α} {cs : List Value} (hc : RepC.cells I x cs) : ∀ u ∈ cs, u.oneCell' = true := h.default.one hc
/-- A value of one cell that reads as x. -/
abbrev Val {α : Type} [RepC α] (I : PHeap) (v : Value) (x : α) : Prop := RepC.cells I x [v]
/-- A struct value that reads as x. -/
def Agg {α : Type} [RepC α] (I : PHeap) (v : Value) (x : α) : Prop := ∃ cs, RepC.cells I x cs ∧ v = .agg cs.toArray
theorem Agg.le {α : Type} [RepC α] {I J : PHeap} {v : Value} {x : α} (h : Agg I v x) (hl : PLe I J) : Agg J v x := let ⟨cs, h1, h2⟩ := h; ⟨cs, RepC.le hl h1, h2⟩
/-- A place in memory that reads as x. -/
def At {α : Type} [RepC α] (I : PHeap) (b off : Nat) (x : α) : Prop := ∃ cs, RepC.cells I x cs ∧ CellsI I b off cs
theorem At.le {α : Type} [RepC α] {I J : PHeap} {b off : Nat} {x : α} (h : At I b off x) (hl : PLe I J) : At J b off x := let ⟨cs, h1, h2⟩ := h; ⟨cs, RepC.le hl h1, h2.le hl⟩

instance : RepC Int := ⟨{
    k := 1
    cells := fun _ n cs => cs = [.int .i64 n]
    len := fun h => (by rw [h]; rfl)
    le := fun _ h => h
    one := fun h => (by rw [h]; simp [Value.oneCell']) }⟩
instance : RepC Bool := ⟨{
    k := 1
    cells := fun _ n cs => cs = [.bool n]
    len := fun h => (by rw [h]; rfl)
    le := fun _ h => h
    one := fun h => (by rw [h]; simp [Value.oneCell']) }⟩
instance : RepC ByteArray := ⟨{
    k := 1
    cells := fun _ s cs => cs = [.string s]
    len := fun h => (by rw [h]; rfl)
    le := fun _ h => h
    one := fun h => (by rw [h]; simp [Value.oneCell']) }⟩

/-- The elements of a slice, from a place on. -/
def Elems {α : Type} [RepC α] (I : PHeap) (ad : Option Addr) (xs : List α) : Prop := xs ≠ [] → ∃ b off, ad = some ⟨b, off, none⟩ ∧ ∀ i x, xs[i]? = some x → At I b (off + i * RepC.k α) x
theorem Elems.le {α : Type} [RepC α] {I J : PHeap} {ad : Option Addr} {xs : List α} (h : Elems I ad xs) (hl : PLe I J) : Elems J ad xs := fun hn =>
  let ⟨b, off, e, h⟩ := h hn; ⟨b, off, e, fun i x hx => (h i x hx).le hl⟩
theorem Elems.nil {α : Type} [RepC α] (I : PHeap) (ad : Option Addr) : Elems (α := α) I ad [] := fun h => absurd rfl h
instance {α : Type} [RepC α] : RepC (List α) := ⟨{
    k := 1
    cells := fun I xs cs => ∃ ad cap, cs = [.slice ad xs.length cap] ∧ xs.length ≤ cap ∧ Elems I ad xs
    len := fun h => (by obtain ⟨_, _, e, _⟩ := h; rw [e]; rfl)
    le := fun hl h => let ⟨ad, cap, e, hc, h⟩ := h; ⟨ad, cap, e, hc, h.le hl⟩
    one := fun h => (by obtain ⟨_, _, e, _⟩ := h; rw [e]; simp [Value.oneCell']) }⟩
theorem Val.slice {α : Type} [RepC α] {I : PHeap} {v : Value} {xs : List α} (h : Val I v xs) : ∃ ad cap, v = .slice ad xs.length cap ∧ xs.length ≤ cap ∧ Elems I ad xs := by
  obtain ⟨ad, cap, e, h1, h2⟩ := h
  exact ⟨ad, cap, by simpa using e, h1, h2⟩
theorem Val.mk {α : Type} [RepC α] {I : PHeap} {ad : Option Addr} {cap : Nat} {xs : List α} (h : xs.length ≤ cap) (he : Elems I ad xs) : Val I (.slice ad xs.length cap) xs := ⟨ad, cap, rfl, h, he⟩
theorem Val.nil {α : Type} [RepC α] {I : PHeap} : Val (α := List α) I (.slice none 0 0) [] := ⟨none, 0, rfl, Nat.le_refl _, Elems.nil _ _⟩
theorem Val.le {α : Type} [RepC α] {I J : PHeap} {v : Value} {x : α} (h : Val I v x) (hl : PLe I J) : Val J v x := RepC.le hl h
theorem Elems.nil_of {α : Type} [RepC α] {I : PHeap} {xs : List α} (h : Elems I none xs) : xs = [] := by
  cases xs with
  | nil => rfl
  | cons x xs => obtain ⟨_, _, e, _⟩ := h (by simp); cases e
/-- The place of element i. -/
theorem Elems.at_ {α : Type} [RepC α] {I : PHeap} {ad : Option Addr} {xs : List α} (h : Elems I ad xs) {i : Nat} (hi : i < xs.length) : ∃ b off, ad = some ⟨b, off, none⟩ ∧ ∀ i x, xs[i]? = some x → At I b (off + i * RepC.k α) x :=
  h (fun e => by subst e; simp at hi)

/-- Elements that lie one behind the other. -/
inductive Flat {α : Type} [RepC α] (I : PHeap) : List α → List Value → Prop
  | nil : Flat I [] []
  | cons {x : α} {xs : List α} {cs ys : List Value} (h : RepC.cells I x cs) (t : Flat I xs ys) : Flat I (x :: xs) (cs ++ ys)
theorem Flat.len {α : Type} [RepC α] {I : PHeap} {xs : List α} {ys : List Value} (h : Flat I xs ys) : ys.length = xs.length * RepC.k α := by
  induction h with
  | nil => simp
  | cons h _ ih => rw [List.length_append, ih, RepC.len h, List.length_cons, Nat.add_mul]; omega
theorem Flat.le {α : Type} [RepC α] {I J : PHeap} {xs : List α} {ys : List Value} (h : Flat I xs ys) (hl : PLe I J) : Flat J xs ys := by
  induction h with
  | nil => exact .nil
  | cons h _ ih => exact .cons (RepC.le hl h) ih
theorem Flat.snoc {α : Type} [RepC α] {I : PHeap} {xs : List α} {ys : List Value} (h : Flat I xs ys) {x : α} {cs : List Value} (hx : RepC.cells I x cs) : Flat I (xs ++ [x]) (ys ++ cs) := by
  induction h with
  | nil => simpa using Flat.cons hx Flat.nil
  | cons h _ ih => rw [List.cons_append, List.append_assoc]; exact .cons h ih
theorem Flat.append {α : Type} [RepC α] {I : PHeap} {xs xs' : List α} {ys ys' : List Value} (h : Flat I xs ys) (h' : Flat I xs' ys') : Flat I (xs ++ xs') (ys ++ ys') := by
  induction h with
  | nil => exact h'
  | cons h _ ih => rw [List.cons_append, List.append_assoc]; exact .cons h ih
theorem Flat.at_ {α : Type} [RepC α] {I : PHeap} {xs : List α} {ys : List Value} (h : Flat I xs ys) : ∀ (i : Nat) (x : α), xs[i]? = some x → ∃ cs, RepC.cells I x cs ∧ ∀ j v, cs[j]? = some v → ys[i * RepC.k α + j]? = some v := by
  induction h with
  | nil => intro i x hx; simp at hx
  | @cons x0 xs cs ys h _ ih =>
    intro i x hx
    have hl := RepC.len h
    cases i with
    | zero =>
      simp only [List.getElem?_cons_zero, Option.some.injEq] at hx
      subst hx
      refine ⟨cs, h, fun j v hv => ?_⟩
      have hj : j < cs.length := by rcases Nat.lt_or_ge j cs.length with h' | h'; exact h'; rw [List.getElem?_eq_none h'] at hv; cases hv
      rw [Nat.zero_mul, Nat.zero_add, List.getElem?_append_left hj]; exact hv
    | succ i =>
      rw [List.getElem?_cons_succ] at hx
      obtain ⟨cs', h1, h2⟩ := ih i x hx
      refine ⟨cs', h1, fun j v hv => ?_⟩
      rw [Nat.add_mul, List.getElem?_append_right (by omega), show i * RepC.k α + 1 * RepC.k α + j - cs.length = i * RepC.k α + j by omega]
      exact h2 j v hv
theorem Flat.one {α : Type} [RepC α] {I : PHeap} {xs : List α} {ys : List Value} (h : Flat I xs ys) : ∀ u ∈ ys, u.oneCell' = true := by
  induction h with
  | nil => intro u hu; simp at hu
  | cons h _ ih =>
    intro u hu
    rcases List.mem_append.1 hu with hu | hu
    · exact RepC.one h u hu
    · exact ih u hu
theorem Elems.flat {α : Type} [RepC α] {I : PHeap} {b : Nat} : ∀ {xs : List α} {off : Nat}, xs ≠ [] → (∀ i x, xs[i]? = some x → At I b (off + i * RepC.k α) x) → ∃ ys, Flat I xs ys ∧ CellsI I b off ys
  | [], _, hn, _ => absurd rfl hn
  | x :: xs, off, _, h => by
    obtain ⟨cs, h1, h2⟩ := h 0 x rfl
    rw [Nat.zero_mul, Nat.add_zero] at h2
    by_cases hx : xs = []
    · subst hx; exact ⟨cs ++ [], .cons h1 .nil, by simpa using h2⟩
    · obtain ⟨ys, h3, h4⟩ := Elems.flat (off := off + RepC.k α) hx (fun i y hy => by
        have := h (i + 1) y (by simpa using hy)
        rwa [show off + (i + 1) * RepC.k α = off + RepC.k α + i * RepC.k α by rw [Nat.add_mul]; omega] at this)
      refine ⟨cs ++ ys, .cons h1 h3, ?_⟩
      obtain ⟨c, T, fr, hb, hc⟩ := h2
      obtain ⟨c', T', fr', hb', hc'⟩ := h4
      rw [hb] at hb'
      cases hb'
      refine ⟨c, T, fr, hb, fun i v hv => ?_⟩
      have hl := RepC.len h1
      rcases Nat.lt_or_ge i cs.length with hi | hi
      · exact hc i v (by rwa [List.getElem?_append_left hi] at hv)
      · rw [List.getElem?_append_right hi] at hv
        have := hc' _ v hv
        rwa [show off + RepC.k α + (i - cs.length) = off + i by omega] at this
theorem Flat.elems {α : Type} [RepC α] {I : PHeap} {xs : List α} {ys : List Value} (h : Flat I xs ys) {b off : Nat} (hc : CellsI I b off ys) : Elems I (some ⟨b, off, none⟩) xs := fun _ => ⟨b, off, rfl, fun i x hx => by
  obtain ⟨cs, h1, h2⟩ := h.at_ i x hx
  exact ⟨cs, h1, hc.sub h2⟩⟩

structure Span where
  lo : Int
  hi : Int
structure Cube where
  yes : Int
  no : Int
structure Box where
  cube : Cube
  spans : List Span
structure Point where
  tags : Int
  num : Int
structure Node where
  kind : Int
  a : Int
  b : Int
structure Dot where
  site : Int
  count : Int
structure Know where
  vec : List Int
  more : List Dot
structure Part where
  filter : List Box
  know : Know
structure Version where
  id : ByteArray
  dot : Dot
  point : Point
  body : Int
  past : Know

instance : RepC Span := ⟨{
    k := 2
    cells := fun _ s cs => cs = [.int .i64 s.lo, .int .i64 s.hi]
    len := fun h => (by rw [h]; rfl)
    le := fun _ h => h
    one := fun h => (by rw [h]; simp [Value.oneCell']) }⟩
instance : RepC Cube := ⟨{
    k := 2
    cells := fun _ s cs => cs = [.int .i64 s.yes, .int .i64 s.no]
    len := fun h => (by rw [h]; rfl)
    le := fun _ h => h
    one := fun h => (by rw [h]; simp [Value.oneCell']) }⟩
instance : RepC Point := ⟨{
    k := 2
    cells := fun _ s cs => cs = [.int .i64 s.tags, .int .i64 s.num]
    len := fun h => (by rw [h]; rfl)
    le := fun _ h => h
    one := fun h => (by rw [h]; simp [Value.oneCell']) }⟩
instance : RepC Dot := ⟨{
    k := 2
    cells := fun _ s cs => cs = [.int .i64 s.site, .int .i64 s.count]
    len := fun h => (by rw [h]; rfl)
    le := fun _ h => h
    one := fun h => (by rw [h]; simp [Value.oneCell']) }⟩
instance : RepC Node := ⟨{
    k := 3
    cells := fun _ s cs => cs = [.int .i64 s.kind, .int .i64 s.a, .int .i64 s.b]
    len := fun h => (by rw [h]; rfl)
    le := fun _ h => h
    one := fun h => (by rw [h]; simp [Value.oneCell']) }⟩
instance : RepC Box := ⟨{
    k := 3
    cells := fun I s cs => ∃ v, cs = [.int .i64 s.cube.yes, .int .i64 s.cube.no, v] ∧ Val I v s.spans
    len := fun h => (by obtain ⟨_, e, _⟩ := h; rw [e]; rfl)
    le := fun hl h => let ⟨v, e, h⟩ := h; ⟨v, e, h.le hl⟩
    one := fun h => (by obtain ⟨_, e, h1⟩ := h; obtain ⟨_, _, rfl, _⟩ := Val.slice h1; rw [e]; simp [Value.oneCell']) }⟩
instance : RepC Know := ⟨{
    k := 2
    cells := fun I s cs => ∃ v u, cs = [v, u] ∧ Val I v s.vec ∧ Val I u s.more
    len := fun h => (by obtain ⟨_, _, e, _⟩ := h; rw [e]; rfl)
    le := fun hl h => let ⟨v, u, e, h, k⟩ := h; ⟨v, u, e, h.le hl, k.le hl⟩
    one := fun h => (by obtain ⟨_, _, e, h1, h2⟩ := h; obtain ⟨_, _, rfl, _⟩ := Val.slice h1; obtain ⟨_, _, rfl, _⟩ := Val.slice h2; rw [e]; simp [Value.oneCell']) }⟩
instance : RepC Part := ⟨{
    k := 3
    cells := fun I s cs => ∃ f v u, cs = [f, v, u] ∧ Val I f s.filter ∧ Val I v s.know.vec ∧ Val I u s.know.more
    len := fun h => (by obtain ⟨_, _, _, e, _⟩ := h; rw [e]; rfl)
    le := fun hl h => let ⟨f, v, u, e, h, k, m⟩ := h; ⟨f, v, u, e, h.le hl, k.le hl, m.le hl⟩
    one := fun h => (by obtain ⟨_, _, _, e, h1, h2, h3⟩ := h; obtain ⟨_, _, rfl, _⟩ := Val.slice h1; obtain ⟨_, _, rfl, _⟩ := Val.slice h2; obtain ⟨_, _, rfl, _⟩ := Val.slice h3; rw [e]; simp [Value.oneCell']) }⟩
instance : RepC Version := ⟨{
    k := 8
    cells := fun I s cs => ∃ v u, cs = [.string s.id, .int .i64 s.dot.site, .int .i64 s.dot.count, .int .i64 s.point.tags, .int .i64 s.point.num, .int .i64 s.body, v, u] ∧ Val I v s.past.vec ∧ Val I u s.past.more
    len := fun h => (by obtain ⟨_, _, e, _⟩ := h; rw [e]; rfl)
    le := fun hl h => let ⟨v, u, e, h, k⟩ := h; ⟨v, u, e, h.le hl, k.le hl⟩
    one := fun h => (by obtain ⟨_, _, e, h1, h2⟩ := h; obtain ⟨_, _, rfl, _⟩ := Val.slice h1; obtain ⟨_, _, rfl, _⟩ := Val.slice h2; rw [e]; simp [Value.oneCell']) }⟩

theorem At.span {I : PHeap} {b off : Nat} {s : Span} (h : At I b off s) : CellsI I b off [.int .i64 s.lo, .int .i64 s.hi] := by obtain ⟨_, rfl, h⟩ := h; exact h
theorem At.cube {I : PHeap} {b off : Nat} {s : Cube} (h : At I b off s) : CellsI I b off [.int .i64 s.yes, .int .i64 s.no] := by obtain ⟨_, rfl, h⟩ := h; exact h
theorem At.point {I : PHeap} {b off : Nat} {s : Point} (h : At I b off s) : CellsI I b off [.int .i64 s.tags, .int .i64 s.num] := by obtain ⟨_, rfl, h⟩ := h; exact h
theorem At.dot {I : PHeap} {b off : Nat} {s : Dot} (h : At I b off s) : CellsI I b off [.int .i64 s.site, .int .i64 s.count] := by obtain ⟨_, rfl, h⟩ := h; exact h
theorem At.node {I : PHeap} {b off : Nat} {s : Node} (h : At I b off s) : CellsI I b off [.int .i64 s.kind, .int .i64 s.a, .int .i64 s.b] := by obtain ⟨_, rfl, h⟩ := h; exact h
theorem At.box {I : PHeap} {b off : Nat} {s : Box} (h : At I b off s) : ∃ ad cap, Elems I ad s.spans ∧ Val I (.slice ad s.spans.length cap) s.spans ∧ CellsI I b off [.int .i64 s.cube.yes, .int .i64 s.cube.no, .slice ad s.spans.length cap] := by
  obtain ⟨_, ⟨v, rfl, hv⟩, h⟩ := h
  obtain ⟨ad, cap, rfl, _, he⟩ := Val.slice hv
  exact ⟨ad, cap, he, hv, h⟩
theorem At.int {I : PHeap} {b off : Nat} {s : Int} (h : At I b off s) : CellsI I b off [.int .i64 s] := by obtain ⟨_, rfl, h⟩ := h; exact h
end Go.Rm
