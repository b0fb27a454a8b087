/- What this text holds: lemmas for the walk of text.Show. -/
import Derived.Test.YtpcgfadcojaceaaDoorRmBack1
import Derived.Test.YtpcgfadcojaceaaDoorRmStrconv
import Derived.Test.YtpcgfadcojaceaaDoorRmRow2
set_option linter.unusedVariables false
set_option linter.unusedSimpArgs false
set_option linter.unusedSectionVars false
namespace Go.Rm
open Go Go.Proofs

def bs (t : Bytes) : ByteArray := ⟨t.toArray⟩
theorem bs_append (a b : Bytes) : bs a ++ bs b = bs (a ++ b) := ByteArray.ext (by simp [bs, ByteArray.data_append])
theorem bs_size (t : Bytes) : (bs t).size = t.length := by simp [bs, ByteArray.size]
theorem sz1 (c : UInt8) : (⟨#[c]⟩ : ByteArray).size = 1 := rfl
theorem bs_one (c : UInt8) : (⟨#[c]⟩ : ByteArray) = bs [c] := rfl
theorem bs_data (s : ByteArray) : bs s.data.toList = s := ByteArray.ext (by simp [bs])
theorem bs_list (t : Bytes) : (bs t).data.toList = t := by simp [bs]
def strV (t : Bytes) : Value := .string (bs t)
theorem dec_len {n : Int} (h : n < 100) : (dec n).length ≤ 2 := by
  unfold dec
  have h1 : n.toNat < 100 := by omega
  rcases Nat.lt_or_ge n.toNat 10 with h2 | h2
  · rw [dec_one h2]; simp
  · rw [dec_two h2 h1]; simp
theorem texts_len : ∀ (l : List Node) (ts : List Bytes), (∀ t ∈ ts, t.length ≤ 401) → ∀ t ∈ textsFrom ts l, t.length ≤ 401
  | [], ts, h => h
  | n :: l, ts, h => by
    rw [textsFrom]
    refine texts_len l _ fun t ht => ?_
    rcases List.mem_append.1 ht with ht | ht
    · exact h t ht
    · rw [List.mem_singleton] at ht; subst ht; exact cutText_len _
theorem getD_texts (l : List Node) (a : Nat) : ((textsOf l).getD a []).length ≤ 401 := by
  rw [List.getD_eq_getElem?_getD]
  cases h : (textsOf l)[a]? with
  | none => simp
  | some t => exact texts_len l [] (by simp) t (List.mem_of_getElem? h)
theorem strconv_Itoa2 (I : PHeap) (a : Int) (h0 : 0 ≤ a) (h1 : a < 100) : Pure Tryd.prog 23 [.int .i64 a] I (fun v _ => v = .string (bs (dec a))) := by
  obtain ⟨k, rfl⟩ := Int.eq_ofNat_of_zero_le h0
  exact strconv_Itoa I k (by omega)
theorem textsV_len {l : List Node} {i : Nat} (h : i ≤ l.length) : ((textsOf (l.take i)).map strV).length = i := by
  rw [List.length_map, textsOf_len, List.length_take]; omega
theorem textsV_get {l : List Node} {i a n : Nat} {z : Value} (h : i ≤ l.length) (ha : a < i) : ((textsOf (l.take i)).map strV ++ List.replicate n z)[0 + a * 1]? = some (.string (bs ((textsOf (l.take i)).getD a []))) := by
  have hl := textsV_len h
  rw [Nat.zero_add, Nat.mul_one, List.getElem?_append_left (by omega), List.getElem?_map, List.getD_eq_getElem?_getD]
  have h2 : (textsOf (l.take i)).length = i := by rw [textsOf_len, List.length_take]; omega
  rw [List.getElem?_eq_getElem (by omega)]
  rfl
theorem textsV_all {l : List Node} {a n : Nat} {z : Value} (ha : a < l.length) : ((textsOf (l.take l.length)).map strV ++ List.replicate n z)[0 + a * 1]? = some (.string (bs ((textsOf l).getD a []))) := by
  have := textsV_get (n := n) (z := z) (Nat.le_refl l.length) ha
  rw [List.take_length] at this ⊢
  exact this
theorem textsV_next {l : List Node} {i : Nat} {x : Node} (hx : l[i]? = some x) (h : ¬ 400 < ((bs (nodeText (textsOf (l.take i)) x)).size : Int)) : (textsOf (l.take (i + 1))).map strV = (textsOf (l.take i)).map strV ++ [.string (bs (nodeText (textsOf (l.take i)) x))] := by
  rw [bs_size] at h
  rw [textsOf_take hx, List.map_append, cutText_id (by omega)]; rfl
theorem textsV_next_cut {l : List Node} {i : Nat} {x : Node} (hx : l[i]? = some x) (h : 400 < ((bs (nodeText (textsOf (l.take i)) x)).size : Int)) : (textsOf (l.take (i + 1))).map strV = (textsOf (l.take i)).map strV ++ [.string ((bs (nodeText (textsOf (l.take i)) x)).extract 0 401)] := by
  rw [bs_size] at h
  rw [textsOf_take hx, List.map_append, cutText, if_pos (by omega)]
  have : (bs (nodeText (textsOf (l.take i)) x)).extract 0 401 = bs ((nodeText (textsOf (l.take i)) x).take 401) := by
    apply ByteArray.ext
    rw [ByteArray.data_extract]
    apply Array.ext'
    simp [bs, List.extract_eq_take_drop]
  rw [this]; rfl
end Go.Rm
