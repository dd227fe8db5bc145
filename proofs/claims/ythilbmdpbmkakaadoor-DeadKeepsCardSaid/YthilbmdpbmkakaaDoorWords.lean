/- Plain words used by the contracts of this seat: lists of bytes, names, keys, growth of a world. No program in sight. -/
import Derived.WalkKit
import Derived.WalkSpells
import Derived.WalkLawsBesides
import Derived.KernelRfl
import Derived.Outline
import Derived.Lib.Hide
import Derived.Laws.RangeAny
import Derived.Lib.OthersKept
import Derived.BigQuiet
import Derived.Deep.QuietTactic
import Derived.Deep.RegionWith
import Derived.Deep.RegionHeld3
import Derived.Lib.QuietBelow
set_option linter.unusedVariables false
set_option linter.unusedSimpArgs false
namespace Go.Proofs.YthilbmdpbmkakaaDoor
open Go Go.RowKit

/-- The world has only grown: what was there is as it was. -/
def Ext (w w' : World) : Prop := Below w.heap.size w w'
theorem Ext.refl (w : World) : Ext w w := Below.refl _ _
theorem Ext.trans {a b c : World} (h : Ext a b) (k : Ext b c) : Ext a c :=
  Below.trans h ⟨k.os, k.tape, k.output, k.size, fun i hi => k.block i (Nat.lt_of_lt_of_le hi h.size)⟩
theorem Ext.below {w w' : World} (h : Ext w w') : Below w.heap.size w w' := h
theorem Ext.of {w w' : World} (h : Below w.heap.size w w') : Ext w w' := h
theorem Ext.alloc {a w : World} (h : Ext a w) (o : Obj) : Ext a (w.alloc o) := Below.alloc h h.size o
theorem Ext.drew {a w : World} (h : Ext a w) : Ext a w.drew := ⟨h.os, h.tape, h.output, h.size, h.block⟩
theorem Ext.drewN {a w : World} (h : Ext a w) (n : Nat) : Ext a (w.drewN n) := ⟨h.os, h.tape, h.output, h.size, h.block⟩
theorem Ext.set {a w : World} (h : Ext a w) {p : Addr} (hp : a.heap.size ≤ p.block) (u : Value) : Ext a (w.setCell p u) := Below.setCell h hp u
theorem Ext.iterAt {a w : World} (h : Ext a w) {k : Nat} (hk : a.heap.size ≤ k) (s : ByteArray) (pos : Nat) : Ext a (w.iterAt k s pos) := Lib.below_iterAt h hk s pos
theorem Ext.size {w w' : World} (h : Ext w w') : w.heap.size ≤ w'.heap.size := Below.size h
theorem Ext.cell {w w' : World} (h : Ext w w') {p : Addr} {v : Value} (hc : w.cell? p = some v) : w'.cell? p = some v :=
  (Below.cell h (World.block_lt_of_cell? w p hc)).trans hc
theorem Ext.frozen {w w' : World} (h : Ext w w') {p : Addr} (hp : p.block < w.heap.size) : w'.frozen? p = w.frozen? p := Below.frozen h hp
theorem Ext.blk {w w' : World} (h : Ext w w') {k : Nat} {o : Obj} (hk : w.heap[k]? = some o) : w'.heap[k]? = some o :=
  (Below.block h k (Array.getElem?_eq_some_iff.1 hk).1).trans hk
theorem Ext.cells {w w' : World} (h : Ext w w') : ∀ b o, b < w.heap.size → w'.cell? ⟨b, o, none⟩ = w.cell? ⟨b, o, none⟩ := fun b o hb => Below.cell h (p := ⟨b, o, none⟩) hb

/-- Equality of strings as the walk tests it. -/
theorem toList_beq (a b : ByteArray) : (a.toList == b.toList) = decide (a = b) := by
  rw [ByteArray.toList_eq, ByteArray.toList_eq, Bool.eq_iff_iff]
  simp only [beq_iff_eq, decide_eq_true_eq]
  exact ⟨fun h => WideShapes.bytes_inj h, fun h => by rw [h]⟩
theorem toList_data (a : ByteArray) : a.toList = a.data.toList := ByteArray.toList_eq a
theorem size_data (s : ByteArray) : s.data.toList.length = s.size := by simp
theorem drop_at (s : ByteArray) (k : Nat) (hk : k < s.size) : s.data.toList.drop k = s[k] :: s.data.toList.drop (k + 1) := by
  rw [List.drop_eq_getElem_cons (by simpa using hk)]; rfl
theorem take_at (s : ByteArray) (k : Nat) (hk : k < s.size) : s.data.toList.take (k + 1) = s.data.toList.take k ++ [s[k]] := by
  rw [List.take_succ_eq_append_getElem (by simpa using hk)]; rfl
theorem take_all (s : ByteArray) : s.data.toList.take s.size = s.data.toList := List.take_of_length_le (by simp)
theorem drop_all (s : ByteArray) : s.data.toList.drop s.size = [] := List.drop_of_length_le (by simp)

/-! ### names and keys -/
def lowerB (c : UInt8) : Bool := 97 ≤ c && c ≤ 122
def digitB (c : UInt8) : Bool := 48 ≤ c && c ≤ 57
def wordB (c : UInt8) : Bool := lowerB c || digitB c || c == 45
theorem lowerB_iff (c : UInt8) : lowerB c = true ↔ 97 ≤ (c.toNat : Int) ∧ (c.toNat : Int) ≤ 122 := by
  simp [lowerB, UInt8.le_iff_toNat_le]; omega
theorem digitB_iff (c : UInt8) : digitB c = true ↔ 48 ≤ (c.toNat : Int) ∧ (c.toNat : Int) ≤ 57 := by
  simp [digitB, UInt8.le_iff_toNat_le]; omega
theorem dash_iff (c : UInt8) : (c == 45) = true ↔ (c.toNat : Int) = 45 := by
  rw [beq_iff_eq, ← UInt8.toNat_inj]; simp; omega
theorem byte_iff (c d : UInt8) : (c == d) = true ↔ (c.toNat : Int) = d.toNat := by
  rw [beq_iff_eq, ← UInt8.toNat_inj]; omega
theorem wordB_iff (c : UInt8) : wordB c = true ↔ (97 ≤ (c.toNat : Int) ∧ (c.toNat : Int) ≤ 122) ∨ (48 ≤ (c.toNat : Int) ∧ (c.toNat : Int) ≤ 57) ∨ (c.toNat : Int) = 45 := by
  simp only [wordB, Bool.or_eq_true, lowerB_iff, digitB_iff, dash_iff, or_assoc]
/-- P1.1. -/
def nameB (l : List UInt8) : Bool := decide (1 ≤ l.length) && decide (l.length ≤ 16) && (l.head?.map lowerB).getD false && l.all wordB
def keyB (l : List UInt8) : Bool := decide (1 ≤ l.length) && decide (l.length ≤ 16) && l.all wordB
theorem nameB_cons (c : UInt8) (l : List UInt8) : nameB (c :: l) = (decide (l.length < 16) && lowerB c && l.all wordB) := by
  have : lowerB c = true → wordB c = true := fun h => by simp [wordB, h]
  unfold nameB
  cases hc : lowerB c <;> simp_all [Nat.lt_iff_add_one_le]
/-! ### topics -/
def isB (b : UInt8) (l : List UInt8) : Bool := l.any (· == b)
/-- P1.3: the levels: the parts between slashes. -/
def levelsL : List UInt8 → List (List UInt8)
  | [] => [[]]
  | c :: l => if c == 47 then [] :: levelsL l else match levelsL l with
    | [] => [[c]]
    | x :: r => (c :: x) :: r
theorem levelsL_ne (l : List UInt8) : levelsL l ≠ [] := by
  cases l with
  | nil => simp [levelsL]
  | cons c l =>
    simp only [levelsL]
    split
    · simp
    · split <;> simp
theorem levelsL_length (l : List UInt8) : (levelsL l).length = l.count 47 + 1 := by
  induction l with
  | nil => rfl
  | cons c l ih =>
    simp only [levelsL]
    by_cases h : c = 47
    · subst h; simp [ih]
    · have h2 : (c == 47) = false := by simpa using h
      rw [h2]
      have := levelsL_ne l
      match hh : levelsL l, this with
      | x :: r, _ =>
        rw [hh] at ih
        simp [List.count_cons, h2] at ih ⊢
        omega
def sizedB (l : List UInt8) : Bool := decide (1 ≤ l.length) && decide (l.length ≤ 64) && !isB 0 l && decide (l.count 47 + 1 ≤ 8)
def validB (l : List UInt8) : Bool := sizedB l && !isB 43 l && !isB 35 l
def systemB (l : List UInt8) : Bool := (l.head?.map (· == 36)).getD false

/-! ### decoding: a rune of more than one byte skips high bytes alone -/
theorem get_get (s : ByteArray) (k : Nat) (h : k < s.size) : s.get! k = s[k] := by
  have := get_at s k h; simpa using this
theorem div_two {n : Nat} (h : n / 64 = 2) : 128 ≤ n := by omega
theorem decode_skip (s : ByteArray) (pos : Nat) (h : pos < s.size) (ha : 128 ≤ (s[pos]'h).toNat) :
    ∃ k, (Utf8.decode s pos).2 = k + 1 ∧ pos + k < s.size ∧ ∀ j (hj : j < s.size), pos ≤ j → j ≤ pos + k → 128 ≤ (s[j]'hj).toNat := by
  have one : ∀ j (hj : j < s.size), pos ≤ j → j ≤ pos + 0 → 128 ≤ (s[j]'hj).toNat := fun j hj h1 h2 => by
    obtain rfl : j = pos := by omega
    exact ha
  have cc : ∀ i, (decide (pos + i < s.size) && (s.get! (pos + i)).toNat / 64 == 2) = true → ∃ hi : pos + i < s.size, 128 ≤ (s[pos + i]'hi).toNat := fun i hi => by
    simp only [Bool.and_eq_true, decide_eq_true_eq, beq_iff_eq] at hi
    refine ⟨hi.1, ?_⟩
    have := div_two hi.2
    rwa [get_get s _ hi.1] at this
  have hn : ¬ (s.get! (pos + 0)).toNat < 128 := by rw [get_at s pos h]; omega
  simp only [Utf8.decode, hn, if_false]
  split
  · rename_i g
    simp only [Bool.and_eq_true] at g
    split
    · obtain ⟨h1, g1⟩ := cc 1 (by simp only [Bool.and_eq_true]; exact g.2)
      exact ⟨1, rfl, h1, fun j hj a b => by
        rcases (show j = pos ∨ j = pos + 1 by omega) with rfl | rfl
        · exact ha
        · exact g1⟩
    · exact ⟨0, rfl, h, one⟩
  · split
    · rename_i g
      simp only [Bool.and_eq_true] at g
      split
      · obtain ⟨h1, g1⟩ := cc 1 (by simp only [Bool.and_eq_true]; exact g.1.2)
        obtain ⟨h2, g2⟩ := cc 2 (by simp only [Bool.and_eq_true]; exact g.2)
        exact ⟨2, rfl, h2, fun j hj a b => by
          rcases (show j = pos ∨ j = pos + 1 ∨ j = pos + 2 by omega) with rfl | rfl | rfl
          · exact ha
          · exact g1
          · exact g2⟩
      · exact ⟨0, rfl, h, one⟩
    · split
      · rename_i g
        simp only [Bool.and_eq_true] at g
        split
        · obtain ⟨h1, g1⟩ := cc 1 (by simp only [Bool.and_eq_true]; exact g.1.1.2)
          obtain ⟨h2, g2⟩ := cc 2 (by simp only [Bool.and_eq_true]; exact g.1.2)
          obtain ⟨h3, g3⟩ := cc 3 (by simp only [Bool.and_eq_true]; exact g.2)
          exact ⟨3, rfl, h3, fun j hj a b => by
            rcases (show j = pos ∨ j = pos + 1 ∨ j = pos + 2 ∨ j = pos + 3 by omega) with rfl | rfl | rfl | rfl
            · exact ha
            · exact g1
            · exact g2
            · exact g3⟩
        · exact ⟨0, rfl, h, one⟩
      · exact ⟨0, rfl, h, one⟩
/-- What stands in the skipped bytes is high: a list's part between. -/
theorem high_part (s : ByteArray) (pos k : Nat) (hk : pos + k < s.size) (hh : ∀ j (hj : j < s.size), pos ≤ j → j ≤ pos + k → 128 ≤ (s[j]'hj).toNat) :
    ∃ m : List UInt8, s.data.toList.drop pos = m ++ s.data.toList.drop (pos + (k + 1)) ∧ m.length = k + 1 ∧ ∀ c ∈ m, 128 ≤ c.toNat := by
  refine ⟨(s.data.toList.drop pos).take (k + 1), ?_, ?_, ?_⟩
  · rw [← List.drop_drop, List.take_append_drop]
  · simp; omega
  · intro c hc
    obtain ⟨i, hi, rfl⟩ := List.getElem_of_mem hc
    have hi' : i < k + 1 := by simp at hi; omega
    have := hh (pos + i) (by omega) (by omega) (by omega)
    rw [List.getElem_take, List.getElem_drop]
    exact this
end Go.Proofs.YthilbmdpbmkakaaDoor
