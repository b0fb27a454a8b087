/- What this text holds: the rules of my separation logic for struct values, new slices, append, make, copy, slicing and panics, whatever the program. -/
import Derived.Test.YtpcgfadcojaceaaDoorRmDraw
import Derived.Test.YtpcgfadcojaceaaDoorRmData
import Derived.Laws.Append
import Derived.Laws.AppendOwn
import Derived.Laws.Slices
import Derived.Laws.Strings3
import Derived.Laws.MakeOwn
set_option linter.unusedVariables false
set_option linter.unusedSimpArgs false
set_option linter.unusedSectionVars false
namespace Go.Rm
open Go

section
variable {P : Program} {ops : Array Oper} {Q : Exit → Act → World → Prop} {n : Nat} {ds : List Deferred} {E : Env} {W : World} {L Lr Lx : Own} {I : PHeap} {rest : List Oper} {o : Oper} {v u z : Value} {d : Nat}
  {dst : Option Tmp} {ty : TypeId} {pos : String} {aft : Array Edge} {g : Option (Nat × Bool)} {T S : TypeId} {x y : Operand}

inductive evalP (E : Env) : List (Nat × Operand) → List (Nat × Value) → Prop
  | nil : evalP E [] []
  | cons {i : Nat} {x : Operand} {v : Value} {xs : List (Nat × Operand)} {vs : List (Nat × Value)} (h : evalO E x = some v) (t : evalP E xs vs) : evalP E ((i, x) :: xs) ((i, v) :: vs)
theorem evalP_map {a : Act} (ha : Has n ds E a) : ∀ {xs : List (Nat × Operand)} {vs : List (Nat × Value)}, evalP E xs vs → xs.map (fun p => (p.1, a.eval p.2)) = vs
  | _, _, .nil => rfl
  | _, _, .cons h t => by rw [List.map_cons, evalP_map ha t]; simp only; rw [ha.eval h]

/-- A struct or array value is put together. -/
theorem y_build {ps : List (Nat × Operand)} {vs : List (Nat × Value)} (hv : evalP E ps vs) (hb : ∀ w, (Instr.build T vs.toArray).run P w = .ok v w) : Yields P ⟨dst, .build T ps.toArray, ty, pos, aft, g⟩ E W L I v := fun a w _ _ ha _ => by
  have hm := evalP_map ha hv
  simp only [execOp, List.map_toArray]
  rw [show (ps.map fun x => match x with | (i, x) => (i, a.eval x)) = vs from hm]
  simp [hb]
/-- A slice literal: a new block. -/
theorem HL.buildSlice {ps : List (Nat × Operand)} {vs : List (Nat × Value)} {len e k : Nat} {cs : List Value} (hv : evalP E ps vs) (hu : P.underlying T = some (.slice e)) (hs : ∀ w, (sizeOf e).run P w = .ok k w) (hz : ∀ w, (zeroValue e).run P w = .ok z w) (hk : Nat.ble (len * k) 16777216 = true) (h0 : Nat.beq (len * k) 0 = false)
    (hf : Instr.fill (fun i => some (i * k, k)) ((Array.range (len * k)).map (fun i => z.cells[i % z.cells.size]!)) vs = some cs.toArray) (hd : Nat.blt d n = true)
    (h : ∀ b, I b = none → HL P ops Q rest n ds ((d, .slice (some ⟨b, 0, none⟩) len len) :: E) W ((b, blk cs e) :: L) I) :
    HL P ops Q (⟨some d, .buildSlice T len ps.toArray, ty, pos, aft, none⟩ :: rest) n ds E W L I := HL.of_value fun a w ha hw => by
  have hh := hw.alloc (blk cs e)
  have hm := evalP_map ha hv
  refine ⟨.slice (some ⟨w.heap.size, 0, none⟩) len len, { w with heap := w.heap.push (blk cs e) }, ?_, h _ hh.free _ _ (ha.put (by simpa using hd)) hh⟩
  have hk' : ¬ (16777216 < len * k) := by have : len * k ≤ 16777216 := by simpa using hk
                                          omega
  have h0' : ¬ (len * k = 0) := by intro e0; rw [e0] at h0; simp at h0
  simp only [execOp, List.map_toArray]
  rw [show (ps.map fun x => match x with | (i, x) => (i, a.eval x)) = vs from hm]
  have hb : (Instr.buildSlice T len vs.toArray).run P w = .ok (.slice (some ⟨w.heap.size, 0, none⟩) len len) { w with heap := w.heap.push (blk cs e) } := by
    simp only [Instr.buildSlice, Sem.run_bind, run_underlying hu, hs, Result.andThen_ok]
    rw [if_neg (by omega)]
    simp only [Sem.run_bind, Sem.run_pure, Result.andThen_ok, pure_bind, if_neg h0', hz]
    simp [hz, hf, newRow]
  simp only [Sem.run_bind, hb, Result.andThen_ok, Sem.run_pure]

/-- The text's own panic. -/
theorem HL.panic {t : TypeId} (hx : evalO E x = some (.iface t v)) (h : HQ Q (.panic [{ v := .iface t v, recovered := false }]) n ds E W L I) : HL P ops Q (⟨none, .panic x, ty, pos, aft, none⟩ :: rest) n ds E W L I := by
  intro a w ha hw
  refine wpList_plain rfl fun K hK => ?_
  unfold Oper.wp
  have : (execOp a.eval ⟨none, .panic x, ty, pos, aft, none⟩).run P w = .halt (.panic (.iface t v)) w := by
    simp only [execOp, ha.eval hx]; simp [Instr.panic]
  rw [this, Oper.upon_panic]
  exact h a w ha hw

/-! ### slices of the call's own, which grow -/
/-- The slice value v, of m elements, is nil or begins at the head of its own block (Lx); its cells are xs. -/
def OwnS (e size : Nat) (v : Value) (m : Nat) (xs : List Value) (Lx : Own) : Prop := xs.length = m * size ∧ ((v = .slice none 0 0 ∧ m = 0 ∧ Lx = []) ∨
  ∃ b cap cur, v = .slice (some ⟨b, 0, none⟩) m cap ∧ Lx = [(b, blk cur e)] ∧ m ≤ cap ∧ cap ≤ maxLen ∧ cur.length = cap * size ∧ cur.take (m * size) = xs)
theorem OwnS.nil (e size : Nat) : OwnS e size (.slice none 0 0) 0 [] [] := ⟨by simp, .inl ⟨rfl, rfl, rfl⟩⟩
theorem OwnS.of {e size m cap : Nat} {b : Nat} {cur xs : List Value} (h1 : xs.length = m * size) (h2 : m ≤ cap) (h3 : cap ≤ maxLen) (h4 : cur.length = cap * size) (h5 : cur.take (m * size) = xs) : OwnS e size (.slice (some ⟨b, 0, none⟩) m cap) m xs [(b, blk cur e)] :=
  ⟨h1, .inr ⟨b, cap, cur, rfl, rfl, h2, h3, h4, h5⟩⟩
theorem OwnS.full {e size m : Nat} {b : Nat} {xs : List Value} (h1 : xs.length = m * size) (h3 : m ≤ maxLen) : OwnS e size (.slice (some ⟨b, 0, none⟩) m m) m xs [(b, blk xs e)] :=
  OwnS.of h1 (Nat.le_refl _) h3 h1 (by rw [← h1]; exact List.take_length)

theorem OwnS.shape {e size : Nat} {v : Value} {m : Nat} {xs : List Value} {Lx : Own} (h : OwnS e size v m xs Lx) : ∃ ad cap, v = .slice ad m cap ∧ m ≤ cap := by
  rcases h.2 with ⟨rfl, rfl, _⟩ | ⟨b, cap, _, rfl, _, hc, _⟩
  · exact ⟨_, _, rfl, Nat.le_refl _⟩
  · exact ⟨_, _, rfl, hc⟩
theorem permF_0 {Lx Lf : Own} : (Lx ++ Lf).Perm (Lx ++ Lf) := List.Perm.refl _
theorem permF_1 {x0 : Nat × Obj} {Lx Lf : Own} : (x0 :: (Lx ++ Lf)).Perm (Lx ++ (x0 :: Lf)) := (List.Perm.cons _ permF_0).trans List.perm_middle.symm
theorem permF_2 {x0 x1 : Nat × Obj} {Lx Lf : Own} : (x0 :: x1 :: (Lx ++ Lf)).Perm (Lx ++ (x0 :: x1 :: Lf)) := (List.Perm.cons _ permF_1).trans List.perm_middle.symm
theorem permF_3 {x0 x1 x2 : Nat × Obj} {Lx Lf : Own} : (x0 :: x1 :: x2 :: (Lx ++ Lf)).Perm (Lx ++ (x0 :: x1 :: x2 :: Lf)) := (List.Perm.cons _ permF_2).trans List.perm_middle.symm
theorem permF_4 {x0 x1 x2 x3 : Nat × Obj} {Lx Lf : Own} : (x0 :: x1 :: x2 :: x3 :: (Lx ++ Lf)).Perm (Lx ++ (x0 :: x1 :: x2 :: x3 :: Lf)) := (List.Perm.cons _ permF_3).trans List.perm_middle.symm
theorem permF_5 {x0 x1 x2 x3 x4 : Nat × Obj} {Lx Lf : Own} : (x0 :: x1 :: x2 :: x3 :: x4 :: (Lx ++ Lf)).Perm (Lx ++ (x0 :: x1 :: x2 :: x3 :: x4 :: Lf)) := (List.Perm.cons _ permF_4).trans List.perm_middle.symm
theorem permF_6 {x0 x1 x2 x3 x4 x5 : Nat × Obj} {Lx Lf : Own} : (x0 :: x1 :: x2 :: x3 :: x4 :: x5 :: (Lx ++ Lf)).Perm (Lx ++ (x0 :: x1 :: x2 :: x3 :: x4 :: x5 :: Lf)) := (List.Perm.cons _ permF_5).trans List.perm_middle.symm
theorem permF_7 {x0 x1 x2 x3 x4 x5 x6 : Nat × Obj} {Lx Lf : Own} : (x0 :: x1 :: x2 :: x3 :: x4 :: x5 :: x6 :: (Lx ++ Lf)).Perm (Lx ++ (x0 :: x1 :: x2 :: x3 :: x4 :: x5 :: x6 :: Lf)) := (List.Perm.cons _ permF_6).trans List.perm_middle.symm

theorem permK_1 {x0 x1 : Nat × Obj} {Lf : Own} : (x0 :: x1 :: Lf).Perm (x1 :: x0 :: Lf) := List.perm_middle (l₁ := [x0])
theorem permK_2 {x0 x1 x2 : Nat × Obj} {Lf : Own} : (x0 :: x1 :: x2 :: Lf).Perm (x2 :: x0 :: x1 :: Lf) := List.perm_middle (l₁ := [x0, x1])
theorem permK_3 {x0 x1 x2 x3 : Nat × Obj} {Lf : Own} : (x0 :: x1 :: x2 :: x3 :: Lf).Perm (x3 :: x0 :: x1 :: x2 :: Lf) := List.perm_middle (l₁ := [x0, x1, x2])
theorem permK_4 {x0 x1 x2 x3 x4 : Nat × Obj} {Lf : Own} : (x0 :: x1 :: x2 :: x3 :: x4 :: Lf).Perm (x4 :: x0 :: x1 :: x2 :: x3 :: Lf) := List.perm_middle (l₁ := [x0, x1, x2, x3])
theorem permK_5 {x0 x1 x2 x3 x4 x5 : Nat × Obj} {Lf : Own} : (x0 :: x1 :: x2 :: x3 :: x4 :: x5 :: Lf).Perm (x5 :: x0 :: x1 :: x2 :: x3 :: x4 :: Lf) := List.perm_middle (l₁ := [x0, x1, x2, x3, x4])
theorem permK_6 {x0 x1 x2 x3 x4 x5 x6 : Nat × Obj} {Lf : Own} : (x0 :: x1 :: x2 :: x3 :: x4 :: x5 :: x6 :: Lf).Perm (x6 :: x0 :: x1 :: x2 :: x3 :: x4 :: x5 :: Lf) := List.perm_middle (l₁ := [x0, x1, x2, x3, x4, x5])
theorem permB {x y : Nat × Obj} {Lx Lf : Own} : (x :: y :: (Lx ++ Lf)).Perm ((y :: Lx) ++ (x :: Lf)) := (List.perm_middle (l₁ := y :: Lx)).symm

theorem permA {x y : Nat × Obj} {Lx Lf : Own} : (y :: x :: (Lx ++ Lf)).Perm ((y :: Lx) ++ (x :: Lf)) := List.Perm.cons _ List.perm_middle.symm

/-- Where the appended elements lie. -/
def Src (W : World) (L : Own) (I : PHeap) (ad : Option Addr) (m : Nat) (news : List Value) : Prop := (m = 0 ∧ news = []) ∨ ∃ b off, ad = some ⟨b, off, none⟩ ∧ ∀ w, Holds W L I w → ∀ j u, news[j]? = some u → w.cell? ⟨b, off + j, none⟩ = some u
theorem Src.none (ad : Option Addr) : Src W L I ad 0 [] := .inl ⟨rfl, rfl⟩
theorem Src.imm {b off m : Nat} {news : List Value} (h : CellsI I b off news) : Src W L I (some ⟨b, off, Option.none⟩) m news := .inr ⟨b, off, rfl, fun _ hw _ _ hu => cellI hw h hu⟩
theorem Src.own {b k m : Nat} {c news : List Value} {e : TypeId} (hk : L[k]? = some (b, blk c e)) (hn : ∀ (j : Nat) (u : Value), news[j]? = some u → c[j]? = some u) : Src W L I (some ⟨b, 0, Option.none⟩) m news :=
  .inr ⟨b, 0, rfl, fun _ hw _ _ hu => cellL hw hk (by simpa using hn _ _ hu)⟩
theorem Src.mono {L' : Own} {ad : Option Addr} {m : Nat} {news : List Value} (h : Src W L I ad m news) (hs : L.Perm L') : Src W L' I ad m news := h.imp id fun ⟨b, off, e, h⟩ => ⟨b, off, e, fun w hw => h w (hw.perm hs.symm)⟩

theorem run_append_empty {w : World} {e k m c : Nat} {ad as : Option Addr} {cap : Nat} (ht : P.underlying T = some (.slice e)) (hs : ∀ w, (sizeOf e).run P w = .ok k w) (hm : m ≤ cap) (hn : ad = none → m = 0) : (Builtin.append_ #[T, T] ty #[.slice ad m cap, .slice as 0 c]).run P w = .ok (.slice ad m cap) w := by
  cases ad <;> cases as <;> simp [Builtin.append_, run_underlying ht, hs, Builtin.lenOf, Builtin.firstCells, loadCells, loadCellsFrom, storeCells, hm]

theorem append_run {w : World} {e size bytes : Nat} {i : TypeInfo} (ht : P.underlying T = some (.slice e)) (hi : P.info? e = some i) (hz : i.zero = some z) (hsize : i.size = size) (hby : i.bytes = bytes) (hzs : z.cells.size = size) (hsz : 0 < size)
    {m : Nat} {xs : List Value} (hown : OwnS e size v m xs Lx) {ad : Option Addr} {k c : Nat} {news : List Value} (hl : news.length = k * size) (hsrc : Src W (Lx ++ Lr) I ad k news) (h1 : ∀ u ∈ news, u.oneCell' = true)
    (hb63 : m + k ≤ maxLen) (hbytes : (m + k) * bytes ≤ 140737488355328) (hw : Holds W (Lx ++ Lr) I w) :
    ∃ v' w' Lx', (Builtin.append_ #[T, T] ty #[v, .slice ad k c]).run P w = .ok v' w' ∧ OwnS e size v' (m + k) (xs ++ news) Lx' ∧ Holds W (Lx' ++ Lr) I w' := by
  have hs : ∀ w, (sizeOf e).run P w = .ok size w := fun w => by simp [sizeOf, typeInfo, hi, hsize]
  have hlen : (xs ++ news).length = (m + k) * size := by rw [List.length_append, hown.1, hl, Nat.add_mul]
  have hmm : ¬ (9223372036854775807 : Nat) < m + k := by unfold maxLen at hb63; omega
  by_cases hk : k = 0
  · subst hk
    have hn : news = [] := List.eq_nil_of_length_eq_zero (by simpa using hl)
    subst hn
    refine ⟨v, w, Lx, ?_, by simpa using hown, hw⟩
    rcases hown.2 with ⟨rfl, rfl, _⟩ | ⟨b, cap, cur, rfl, _, hmc, _⟩
    · exact run_append_empty ht hs (Nat.le_refl _) (fun _ => rfl)
    · exact run_append_empty ht hs hmc (fun e => by cases e)
  · rcases hsrc with ⟨h0, _⟩ | ⟨b2, off2, rfl, hcell⟩
    · exact absurd h0 hk
    · have hnews : ∀ j u, news[j]? = some u → w.cell? ((⟨b2, off2, none⟩ : Addr).add j) = some u := fun j u hu => by rw [Addr.add_lit]; exact hcell w hw j u hu
      have grown : ∀ old, Holds W Lr I (w.drew) → old < m + k → ∃ Lx', OwnS e size (.slice (some ⟨w.heap.size, 0, none⟩) (m + k) (grownCap w (m + k) old e)) (m + k) (xs ++ news) Lx' ∧
          Holds W (Lx' ++ Lr) I (w.drew.alloc (.cells (xs.toArray ++ news.toArray ++ Builtin.zeroCells z.cells (grownCap w (m + k) old e - (m + k))) e)) := by
        intro old hwr hlt
        have hge := grownCap_ge w (m + k) old e
        have hcm : grownCap w (m + k) old e ≤ maxLen := grownCap_le_maxLen w (m + k) old e hb63
        have hh := hwr.alloc (blk (xs ++ news ++ (Builtin.zeroCells z.cells (grownCap w (m + k) old e - (m + k))).toList) e)
        refine ⟨_, OwnS.of (cur := xs ++ news ++ (Builtin.zeroCells z.cells (grownCap w (m + k) old e - (m + k))).toList) hlen hge hcm ?_ ?_, ?_⟩
        · rw [List.length_append, hlen, Array.length_toList, size_zeroCells, hzs, ← Nat.add_mul]; congr 1; omega
        · rw [← hlen]; exact List.take_left
        · have e2 : (xs.toArray ++ news.toArray ++ Builtin.zeroCells z.cells (grownCap w (m + k) old e - (m + k))) = (xs ++ news ++ (Builtin.zeroCells z.cells (grownCap w (m + k) old e - (m + k))).toList).toArray := by
            apply Array.ext'; simp
          rw [e2]; exact hh
      rcases hown.2 with ⟨rfl, rfl, rfl⟩ | ⟨b, cap, cur, rfl, rfl, hmc, hcm, hcl, htk⟩
      · have hx : xs = [] := List.eq_nil_of_length_eq_zero (by simpa using hown.1)
        subst hx
        have hr := run_append_nil (P := P) w T ty e i z ht hi hz ⟨b2, off2, none⟩ k c news (by rw [hl, hsize]) hnews (by omega) (by omega) (by have := hbytes; simp only [Nat.zero_add] at this; rw [hby]; omega)
        obtain ⟨Lx', ho, hh⟩ := grown 0 (by simpa using hw.drew (w.drawn + 1)) (by omega)
        simp only [Nat.zero_add, List.nil_append, Array.empty_append] at ho hh ⊢
        exact ⟨_, _, Lx', hr, ho, hh⟩
      · by_cases hroom : m + k ≤ cap
        · have hfit : m * size + news.length ≤ cur.length := by rw [hl, hcl, ← Nat.add_mul]; exact Nat.mul_le_mul_right _ hroom
          have hg := hw.own (b, blk cur e) (by simp)
          have hr := run_append_room (P := P) w T ty e i ht hi b m cap cur.toArray hg ⟨b2, off2, none⟩ k c news (by rw [hl, hsize]) hnews h1 hroom (by rw [hsize]; simpa using hfit)
          rw [hsize] at hr
          refine ⟨_, _, [(b, blk (cur.take (m * size) ++ news ++ cur.drop (m * size + news.length)) e)], hr, OwnS.of hlen hroom hcm ?_ ?_, ?_⟩
          · simp only [List.length_append, List.length_take, List.length_drop]; omega
          · rw [htk, ← hlen]; exact List.take_left
          · have := hw.row (k := 0) (b := b) (c := cur) (c' := cur.take (m * size) ++ news ++ cur.drop (m * size + news.length)) (T' := e) rfl
            simpa using this
        · have holds : ∀ j u, xs[j]? = some u → w.cell? ((⟨b, 0, none⟩ : Addr).add j) = some u := fun j u hu => by
            rw [Addr.add_lit, Nat.zero_add]
            refine cellL (k := 0) (c := cur) hw rfl ?_
            rw [← htk, List.getElem?_take] at hu
            split at hu
            · exact hu
            · cases hu
          have hr := run_append_grow (P := P) w T ty e i z ht hi hz ⟨b, 0, none⟩ m cap xs (by rw [hown.1, hsize]) holds ⟨b2, off2, none⟩ k c news (by rw [hl, hsize]) hnews (by omega) (by omega) (by rw [hby]; exact growslice_fits (by omega) hbytes)
          obtain ⟨Lx', ho, hh⟩ := grown cap (by
            have := hw.drew (w.drawn + 1)
            exact this.sublist (by simp)) (by omega)
          exact ⟨_, _, Lx', hr, ho, hh⟩

theorem info_of {e size bytes : Nat} {zv : Value} (h : (P.info? e).map (fun i => (i.zero, i.size, i.bytes)) = some (some zv, size, bytes)) : ∃ i, P.info? e = some i ∧ i.zero = some zv ∧ i.size = size ∧ i.bytes = bytes := by
  obtain ⟨i, h1, h2⟩ := Option.map_eq_some_iff.1 h
  simp only [Prod.mk.injEq] at h2
  exact ⟨i, h1, h2.1, h2.2.1, h2.2.2⟩

/-- append onto a slice of the call's own. -/
theorem HL.append {e size bytes : Nat} (ht : P.underlying T = some (.slice e)) (hinfo : (P.info? e).map (fun i => (i.zero, i.size, i.bytes)) = some (some z, size, bytes)) (hzs : z.cells.size = size) (hsz : Nat.blt 0 size = true)
    {m : Nat} {xs : List Value} {ad : Option Addr} {k c : Nat} {news : List Value} (hx : evalO E x = some v) (hy : evalO E y = some (.slice ad k c)) (hown : OwnS e size v m xs Lx) (hl : news.length = k * size) (hp : L.Perm (Lx ++ Lr)) (hsrc : Src W L I ad k news) (h1 : ∀ u ∈ news, u.oneCell' = true)
    (hb63 : m + k ≤ maxLen) (hbytes : (m + k) * bytes ≤ 140737488355328) (hd : Nat.blt d n = true) (h : ∀ v' Lx', OwnS e size v' (m + k) (xs ++ news) Lx' → HL P ops Q rest n ds ((d, v') :: E) W (Lx' ++ Lr) I) :
    HL P ops Q (⟨some d, .call ⟨.builtin .append, #[x, y], #[T, T]⟩, ty, pos, aft, none⟩ :: rest) n ds E W L I := HL.of_value fun a w ha hw => by
  obtain ⟨i, hi, hz, hsize, hby⟩ := info_of hinfo
  obtain ⟨v', w', Lx', hr, ho, hh⟩ := append_run (ty := ty) ht hi hz hsize hby hzs (by simpa using hsz) hown hl (hsrc.mono hp) h1 hb63 hbytes (c := c) (hw.perm hp)
  refine ⟨v', w', ?_, h v' Lx' ho _ _ (ha.put (by simpa using hd)) hh⟩
  simp only [execOp, resolve, List.map_toArray, List.map_cons, List.map_nil, ha.eval hx, ha.eval hy]
  simp [invoke, builtin, hr]

/-- The elements of a slice, as what is appended. -/
theorem Elems.src {α : Type} [RepC α] {ad : Option Addr} {xs : List α} (h : Elems I ad xs) : ∃ ys, Flat I xs ys ∧ ∀ W L, Src W L I ad xs.length ys := by
  by_cases hx : xs = []
  · subst hx; exact ⟨[], .nil, fun _ _ => Src.none ad⟩
  · obtain ⟨b, off, rfl, he⟩ := h hx
    obtain ⟨ys, h1, h2⟩ := Elems.flat hx he
    exact ⟨ys, h1, fun _ _ => Src.imm h2⟩
/-- A slice is nil, or not. -/
theorem y_eq_slice_nil {e : TypeId} {ad : Option Addr} {m c : Nat} (hu : P.underlying T = some (.slice e)) (hx : evalO E x = some (.slice ad m c)) : Yields P ⟨dst, .binOp .eql T x (.const (.slice none 0 0)) S, ty, pos, aft, g⟩ E W L I (.bool ad.isNone) := fun a w _ _ ha _ => by
  have e2 : a.eval (.const (.slice none 0 0)) = .slice none 0 0 := rfl
  have e : binOp .eql T (.slice ad m c) (.slice none 0 0) = (do pure (.bool (← Op.equal T (.slice ad m c) (.slice none 0 0)))) := rfl
  have h1 : (Op.equal T (.slice ad m c) (.slice none 0 0)).run P w = .ok ad.isNone w := by
    unfold Op.equal
    rw [show Op.maxDepth = 9999 + 1 from rfl, Op.equalIn]
    cases ad <;> simp [run_underlying hu]
  simp only [execOp, ha.eval hx, e2, e]
  cases ad <;> simp [h1, eqGuard]
/-- A slice literal without elements. -/
theorem HL.buildSlice0 {e k : Nat} (hu : P.underlying T = some (.slice e)) (hs : ∀ w, (sizeOf e).run P w = .ok k w) (hd : Nat.blt d n = true)
    (h : ∀ b, I b = none → HL P ops Q rest n ds ((d, .slice (some ⟨b, 0, none⟩) 0 0) :: E) W ((b, blk [] e) :: L) I) : HL P ops Q (⟨some d, .buildSlice T 0 #[], ty, pos, aft, none⟩ :: rest) n ds E W L I := HL.of_value fun a w ha hw => by
  have hh := hw.alloc (blk [] e)
  refine ⟨.slice (some ⟨w.heap.size, 0, none⟩) 0 0, { w with heap := w.heap.push (blk [] e) }, ?_, h _ hh.free _ _ (ha.put (by simpa using hd)) hh⟩
  have hb : (Instr.buildSlice T 0 #[]).run P w = .ok (.slice (some ⟨w.heap.size, 0, none⟩) 0 0) { w with heap := w.heap.push (blk [] e) } := by
    simp only [Instr.buildSlice, Sem.run_bind, run_underlying hu, hs, Result.andThen_ok]
    simp [Instr.fill, newRow]
    have he : Array.map (fun _ => (default : Value)) (Array.range 0) = #[] := by simp [Array.range]
    rw [he]
  simp only [execOp, List.map_toArray]
  simp [hb]
/-- A slice of the call's own is not written any more. -/
theorem HL.freezeV {α : Type} [RepC α] {e k : Nat} {xs : List α} {ys : List Value} (ho : OwnS e k v xs.length ys Lx) (hf : Flat I xs ys) (hp : L.Perm (Lx ++ Lr)) (h : ∀ I', PLe I I' → Val I' v xs → HL P ops Q rest n ds E W Lr I') : HL P ops Q rest n ds E W L I := fun a w ha hw => by
  have hw := hw.perm hp
  rcases ho.2 with ⟨rfl, h0, rfl⟩ | ⟨b, cap, cur, rfl, rfl, hmc, _, hcl, htk⟩
  · have hx : xs = [] := List.eq_nil_of_length_eq_zero h0
    subst hx
    exact h I (PLe.refl _) Val.nil a w ha hw
  · have hl := PLe.set (blk cur e) hw.free
    refine h _ hl (Val.mk hmc ((hf.le hl).elems ⟨cur.toArray, e, (0, 0), PHeap.set_same _ _ _, fun i u hu => ?_⟩)) a w ha hw.freeze
    have hlt : i < ys.length := by rcases Nat.lt_or_ge i ys.length with h' | h'; exact h'; rw [List.getElem?_eq_none h'] at hu; cases hu
    rw [← htk, List.getElem?_take] at hu
    split at hu
    · simpa using hu
    · cases hu

/-- make of a slice. -/
theorem HL.makeSlice {e size bytes : Nat} (ht : P.underlying T = some (.slice e)) (hinfo : (P.info? e).map (fun i => (i.zero, i.size, i.bytes)) = some (some z, size, bytes)) {k k' : IntKind} {m c : Nat} (hx : evalO E x = some (.int k (m : Int))) (hy : evalO E y = some (.int k' (c : Int))) (hmc : m ≤ c) (hb : bytes * c ≤ 281474976710656) (hc : c * size ≤ 16777216) (hc63 : c ≤ 9223372036854775807) (hd : Nat.blt d n = true)
    (h : ∀ b, I b = none → HL P ops Q rest n ds ((d, .slice (some ⟨b, 0, none⟩) m c) :: E) W ((b, blk (madeCells z.cells (c * size)).toList e) :: L) I) : HL P ops Q (⟨some d, .makeSlice T x y, ty, pos, aft, none⟩ :: rest) n ds E W L I := HL.of_value fun a w ha hw => by
  obtain ⟨i, hi, hz, hsize, hby⟩ := info_of hinfo
  have hh := hw.alloc (blk (madeCells z.cells (c * size)).toList e)
  have hbc : ((bytes * c : Nat) : Int) ≤ 281474976710656 := by omega
  rw [Int.natCast_mul] at hbc
  have hr := run_makeSlice (P := P) (w := w) T e i z ht hi hz k k' (m : Int) (c : Int) (by omega) (by omega) (by rw [hsize, Int.toNat_natCast]; exact hc) (by rw [hby]; exact hbc) (by omega)
  simp only [Int.toNat_natCast, hsize] at hr
  refine ⟨.slice (some ⟨w.heap.size, 0, none⟩) m c, { w with heap := w.heap.push (blk (madeCells z.cells (c * size)).toList e) }, ?_, h _ hh.free _ _ (ha.put (by simpa using hd)) hh⟩
  simp only [execOp, ha.eval hx, ha.eval hy]
  simp only [Sem.run_bind, hr, Result.andThen_ok, Sem.run_pure]
  rfl
theorem madeCells_one (v : Value) (m : Nat) : (madeCells #[v] m).toList = List.replicate m v := by
  apply List.ext_getElem
  · simp [madeCells]
  · intro i h1 h2
    simp [madeCells, Nat.mod_one]

/-! ### slicing -/
theorem y_slice_str {s : ByteArray} {lo hi : Operand} {k k' : IntKind} {p q : Nat} (hu : P.underlying T = some .string) (hx : evalO E x = some (.string s)) (hl : evalO E lo = some (.int k p)) (hh : evalO E hi = some (.int k' q)) (h1 : p ≤ q) (h2 : q ≤ s.size) :
    Yields P ⟨dst, .slice T x (some lo) (some hi) none, ty, pos, aft, g⟩ E W L I (.string (s.extract p q)) := fun a w _ _ ha _ => by
  simp only [execOp, ha.eval hx, Option.map_some, Option.map_none, ha.eval hl, ha.eval hh]
  simp [Instr.sliceAt, run_underlying hu, Instr.slice, Instr.sliceBounds, Instr.sliceBound, asIntOf, h1, h2]
end
end Go.Rm
