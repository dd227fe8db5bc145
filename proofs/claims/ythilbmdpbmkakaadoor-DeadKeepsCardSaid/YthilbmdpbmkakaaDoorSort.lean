/- The order of texts, and what slices.SortFunc does to a row of the call's own whose elements have k cells. -/
import Derived.Test.YthilbmdpbmkakaaDoorSlice
import Derived.Test.YthilbmdpbmkakaaDoorShelfQ
import Derived.Sort.OwnSortedInts
import Derived.Lib.Bytealg
set_option linter.unusedVariables false
set_option linter.unusedSimpArgs false
namespace Go.Proofs.YthilbmdpbmkakaaDoor
open Go Go.RowKit

/-! ### the order of texts -/
abbrev bl (a b : List UInt8) : Bool := Op.bytesLess a b
theorem u8_lt_irrefl (a : UInt8) : ¬ a < a := by rw [UInt8.lt_iff_toNat_lt]; omega
theorem u8_tri {a b : UInt8} (h : ¬ a < b) (h2 : ¬ b < a) : a = b := by
  rw [UInt8.lt_iff_toNat_lt] at *
  exact UInt8.toNat_inj.1 (by omega)
theorem bl_irrefl : ∀ a, bl a a = false
  | [] => rfl
  | c :: a => by simp [Op.bytesLess, u8_lt_irrefl, bl_irrefl a]
theorem bl_tri : ∀ {a b : List UInt8}, bl a b = false → bl b a = false → a = b
  | [], [], _, _ => rfl
  | [], _ :: _, h, _ => by simp [Op.bytesLess] at h
  | _ :: _, [], _, h => by simp [Op.bytesLess] at h
  | c :: a, d :: b, h, h2 => by
    simp only [bl, Op.bytesLess, Bool.or_eq_false_iff, decide_eq_false_iff_not, Bool.and_eq_false_iff, beq_eq_false_iff_ne] at h h2
    have e := u8_tri h.1 h2.1
    subst e
    have h3 := h.2.resolve_left (by simp)
    have h4 := h2.2.resolve_left (by simp)
    rw [bl_tri (a := a) (b := b) h3 h4]
theorem bl_trans : ∀ {a b c : List UInt8}, bl a b = true → bl b c = true → bl a c = true
  | _, [], _, h, _ => by simp [Op.bytesLess] at h
  | _, _ :: _, [], _, h => by simp [Op.bytesLess] at h
  | [], _ :: _, _ :: _, _, _ => rfl
  | x :: a, y :: b, z :: c, h, h2 => by
    simp only [bl, Op.bytesLess, Bool.or_eq_true, decide_eq_true_eq, Bool.and_eq_true, beq_iff_eq] at h h2 ⊢
    rcases h with h | ⟨rfl, h⟩
    · rcases h2 with h2 | ⟨rfl, h2⟩
      · left; rw [UInt8.lt_iff_toNat_lt] at *; omega
      · exact .inl h
    · rcases h2 with h2 | ⟨rfl, h2⟩
      · exact .inl h2
      · exact .inr ⟨rfl, bl_trans h h2⟩
theorem bl_asymm {a b : List UInt8} (h : bl a b = true) : bl b a = false := by
  cases h2 : bl b a with
  | false => rfl
  | true => exact absurd (bl_trans h h2) (by rw [bl_irrefl]; decide)
/-- Not less is transitive. -/
theorem bl_ntrans {a b c : List UInt8} (h : bl a b = false) (h2 : bl b c = false) : bl a c = false := by
  cases h3 : bl a c with
  | false => rfl
  | true =>
    cases h4 : bl b a with
    | true => exact absurd (bl_trans h4 h3) (by rw [h2]; decide)
    | false =>
      rw [bl_tri h h4] at h3
      rw [h2] at h3
      cases h3
theorem cmp_neg : ∀ (a b : List UInt8), Lib.compareBytes a b < 0 ↔ bl a b = true
  | [], [] => by simp [Lib.compareBytes, Op.bytesLess]
  | [], _ :: _ => by simp [Lib.compareBytes, Op.bytesLess]
  | _ :: _, [] => by simp [Lib.compareBytes, Op.bytesLess]
  | c :: a, d :: b => by
    simp only [Lib.compareBytes, bl, Op.bytesLess, Bool.or_eq_true, decide_eq_true_eq, Bool.and_eq_true, beq_iff_eq]
    by_cases h : c < d
    · simp [h]
    · rw [if_neg h]
      by_cases h2 : d < c
      · rw [if_pos h2]
        constructor
        · intro h; exact absurd h (by decide)
        · rintro (h3 | ⟨rfl, _⟩)
          · exact absurd h3 h
          · exact absurd h2 (u8_lt_irrefl _)
      · have e := u8_tri h h2
        subst e
        rw [if_neg h2, cmp_neg a b]
        simp [h]
theorem cmp_zero : ∀ (a b : List UInt8), Lib.compareBytes a b = 0 ↔ a = b
  | [], [] => by simp [Lib.compareBytes]
  | [], _ :: _ => by simp [Lib.compareBytes]
  | _ :: _, [] => by simp [Lib.compareBytes]
  | c :: a, d :: b => by
    simp only [Lib.compareBytes]
    by_cases h : c < d
    · rw [if_pos h]
      constructor
      · intro h; exact absurd h (by decide)
      · intro e; injection e with e1 e2; subst e1; exact absurd h (u8_lt_irrefl _)
    · rw [if_neg h]
      by_cases h2 : d < c
      · rw [if_pos h2]
        constructor
        · intro h; exact absurd h (by decide)
        · intro e; injection e with e1 e2; subst e1; exact absurd h2 (u8_lt_irrefl _)
      · rw [if_neg h2, cmp_zero a b]
        have e := u8_tri h h2
        subst e
        simp

/-! ### a row of k cells, sorted -/
open Go.Sort in
theorem flatK_list {α : Type} [Inhabited α] (enc : α → List Value) (k : Nat) (hk : ∀ x, (enc x).length = k) (l : List α) : (flatK enc k l.toArray).toList = l.flatMap enc := by
  apply List.ext_getElem?
  intro t
  by_cases ht : t < l.length * k
  · have hk0 : 0 < k := by
      rcases Nat.eq_zero_or_pos k with h | h
      · rw [h, Nat.mul_zero] at ht; omega
      · exact h
    have hj : t / k < l.length := (Nat.div_lt_iff_lt_mul hk0).2 ht
    have hi : t % k < k := Nat.mod_lt _ hk0
    have hlen : (enc l[t / k]).length = k := hk _
    have e := flat_get hk l (t / k) hj (t % k) ((enc l[t / k])[t % k]'(by omega)) (List.getElem?_eq_getElem (by omega))
    have e2 : t / k * k + t % k = t := by rw [Nat.mul_comm]; exact Nat.div_add_mod t k
    rw [e2] at e
    rw [e, Array.getElem?_toList]
    have hsz : t < (flatK enc k l.toArray).size := by simpa using ht
    rw [Array.getElem?_eq_getElem hsz]
    have h1 := get_flatK enc k l.toArray t (by simpa using ht)
    rw [getElem!_pos _ t hsz] at h1
    rw [h1]
    have h2 : (l.toArray[t / k]! : α) = l[t / k] := by
      rw [getElem!_pos l.toArray (t / k) (by simpa using hj)]; simp
    rw [h2, getElem!_pos _ (t % k) (by omega)]
  · rw [List.getElem?_eq_none (by simp; omega), List.getElem?_eq_none (by rw [flat_length hk]; omega)]
open Go.Sort in
theorem putRowK_block {α : Type} [Inhabited α] {enc : α → List Value} {k : Nat} {w : World} {g n e : Nat} {os : Array Obj} {cur : Array Value} (d : Array α) (hb : w.heap[g]? = some (.cells cur e (0, 0))) :
    (grow (putRowK enc k (Sort.ahead w n) g 0 d) os).heap[g]? = some (.cells (putCells id 0 (flatK enc k d) cur) e (0, 0)) := by
  have hg : g < w.heap.size := (Array.getElem?_eq_some_iff.1 hb).1
  rw [heap_grow_old _ _ (by simpa [putRowK, putRow, mapBlock, Sort.ahead] using hg)]
  simp [putRowK, putRow, mapBlock, Sort.ahead, Array.getElem?_modify, hb, onCells]
open Go.Sort in
theorem grownBy_sortK {α : Type} [Inhabited α] (enc : α → List Value) (k : Nat) {w : World} {g n : Nat} {os : Array Obj} (d : Array α) : w.grownBy (grow (putRowK enc k (Sort.ahead w n) g 0 d) os) (some g) := by
  refine ⟨rfl, rfl, rfl, by simp [grow, putRowK, putRow, mapBlock, Sort.ahead], fun j hj hne => ?_⟩
  rw [heap_grow_old _ _ (by simpa [putRowK, putRow, mapBlock, Sort.ahead] using hj)]
  have : g ≠ j := fun e => hne (by rw [e])
  simp [putRowK, putRow, mapBlock, Sort.ahead, Array.getElem?_modify, this]
open Go.Sort in
theorem own_sortedK {α : Type} [Inhabited α] {enc : α → List Value} {k e base : Nat} (hk : ∀ x, (enc x).length = k) {w : World} {g n cap : Nat} {os : Array Obj} {cur : Array Value} {l l' : List α} (hl : l'.length = l.length) (hbase : base ≤ g) (hb : w.heap[g]? = some (.cells cur e (0, 0)))
    (h1 : l.length ≤ cap) (h2 : cap ≤ maxLen) (h3 : cur.size = cap * k) : Own enc k e base (grow (putRowK enc k (Sort.ahead w n) g 0 l'.toArray) os) (.slice (some ⟨g, 0, none⟩) l.length cap) l' := by
  refine ⟨flat_length hk l', .inr ⟨g, cap, _, by rw [hl], hbase, putRowK_block _ hb, by omega, h2, by simp [putCells, h3], ?_⟩⟩
  rw [← flatK_list enc k hk l']
  have hle : l'.length * k ≤ cur.size := by rw [h3]; exact Nat.mul_le_mul_right k (by omega)
  apply List.ext_getElem?
  intro j
  by_cases hj : j < l'.length * k
  · rw [List.getElem?_take_of_lt hj, Array.getElem?_toList, Array.getElem?_toList]
    have hsz : (flatK enc k l'.toArray).size = l'.length * k := by simp
    rw [Array.getElem?_eq_getElem (xs := flatK enc k l'.toArray) (by rw [hsz]; exact hj)]
    simp only [putCells]
    rw [Array.getElem?_mapIdx, Array.getElem?_eq_getElem (show j < cur.size by omega)]
    simp only [Option.map_some, Nat.zero_le, Nat.zero_add, hsz, hj, and_self, if_true, id, Nat.sub_zero]
    rw [getElem!_pos _ j (by rw [hsz]; exact hj)]
  · rw [List.getElem?_take_eq_none (by omega), List.getElem?_eq_none (by simp; omega)]
open Go.Sort in
theorem holdsK_own {α : Type} [Inhabited α] {enc : α → List Value} {k e : Nat} (hk : ∀ x, (enc x).length = k) {w : World} {g : Nat} {cur : Array Value} {l : List α} (hb : w.heap[g]? = some (.cells cur e (0, 0))) (ht : cur.toList.take (l.length * k) = l.flatMap enc) : HoldsK enc k w g 0 l.toArray := by
  intro j hj
  have hj' : j < l.length * k := by simpa using hj
  have hsz : (flatK enc k l.toArray).size = l.length * k := by simp
  refine ⟨?_, by simp [World.frozen?, hb]⟩
  rw [cell_of_row w g (0 + j) cur e (0, 0) hb, Nat.zero_add, ← Array.getElem?_toList]
  have h1 : (cur.toList.take (l.length * k))[j]? = cur.toList[j]? := List.getElem?_take_of_lt hj'
  rw [← h1, ht, ← flatK_list enc k hk l, Array.getElem?_toList, Array.getElem?_eq_getElem (by rw [hsz]; exact hj'), getElem!_pos _ j (by rw [hsz]; exact hj')]
  rfl
end Go.Proofs.YthilbmdpbmkakaaDoor
