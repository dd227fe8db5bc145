/- Contracts of chapter 28: the laid variables as a condition that lasts; numerals; Deaths (program and reference). -/
import Derived.Test.YthilbmdpbmkakaaDoorMessageC
import Derived.Test.YthilbmdpbmkakaaDoorShelf
import Derived.Lib.SmallJoins
set_option linter.unusedVariables false
set_option linter.unusedSimpArgs false
namespace Go.Proofs.YthilbmdpbmkakaaDoor
open Go Go.RowKit

/-- What the library's variables hold. -/
structure Glob (w : World) : Prop where
  cell : ∃ m, w.cell? ⟨0, 0, none⟩ = some (.int .i64 m)
  tab : Lib.TabIs Tryd.prog w "internal/strconv.uint64pow10" .u64 Lib.pow10Tab
theorem Glob.ext {w w' : World} (h : Glob w) (he : Ext w w') : Glob w' := by
  obtain ⟨⟨m, hm⟩, ht⟩ := h
  exact ⟨⟨m, he.cell hm⟩, Joins.tab_stays (g := 1) (by kernel_rfl) ht he.below (Nat.le_refl _)⟩
theorem Ext.grow {a w : World} (h : Ext a w) (os : Array Obj) : Ext a (Sort.grow w os) :=
  Ext.trans h ⟨rfl, rfl, rfl, by simp [Sort.grow], fun k hk => by simp [Sort.grow, Array.getElem?_append, hk]⟩
/-- strconv.Itoa, its world by Ext. -/
theorem itoa_ext (n : Int) (h0 : -9223372036854775808 ≤ n) (h1 : n ≤ 9223372036854775807) (w : World) (hg : Glob w) :
    Calls Tryd.prog 34 #[.int .i64 n] w fun e w' => e = .returned (.string ⟨(Lib.itoa n).toArray⟩) ∧ Ext w w' :=
  (Tryd.strconv_Itoa n h0 h1 w hg.tab).mono fun e w' ⟨he, k, os, hw⟩ => ⟨he, by rw [hw]; exact ((Ext.refl w).drewN k).grow os⟩

/-! ### numerals -/
def numL (l : List UInt8) : Nat := l.foldl (fun n c => 10 * n + (c.toNat - 48)) 0
theorem numL_snoc (l : List UInt8) (c : UInt8) : numL (l ++ [c]) = 10 * numL l + (c.toNat - 48) := by simp [numL]
theorem digit_bd {c : UInt8} (h : digitB c = true) : 48 ≤ c.toNat ∧ c.toNat ≤ 57 := by have := (digitB_iff c).1 h; omega
theorem numL_lt : ∀ (n : Nat) (l : List UInt8), l.length = n → l.all digitB = true → numL l < 10 ^ n
  | 0, l, h, _ => by
    have : l = [] := List.eq_nil_of_length_eq_zero h
    subst this; simp [numL]
  | n + 1, l, h, ha => by
    have hne : l ≠ [] := by intro e; subst e; simp at h
    obtain ⟨m, c, rfl⟩ : ∃ m c, l = m ++ [c] := ⟨l.dropLast, l.getLast hne, (List.dropLast_concat_getLast hne).symm⟩
    have hm : m.length = n := by simpa using h
    simp only [List.all_append, List.all_cons, List.all_nil, Bool.and_true, Bool.and_eq_true] at ha
    have := numL_lt n m hm ha.1
    have hc := digit_bd ha.2
    rw [numL_snoc, Nat.pow_succ]
    omega
theorem byte_of_digit (c : UInt8) (h : digitB c = true) : UInt8.ofNat (48 + (c.toNat - 48)) = c := by
  have := digit_bd h
  rw [show 48 + (c.toNat - 48) = c.toNat by omega]
  simp
theorem numL_pos : ∀ (l : List UInt8) (c : UInt8), digitB c = true → c ≠ 48 → 1 ≤ numL (c :: l) := by
  have key : ∀ (l : List UInt8) (a : Nat), 1 ≤ a → 1 ≤ l.foldl (fun n c => 10 * n + (c.toNat - 48)) a := by
    intro l
    induction l with
    | nil => intro a h; exact h
    | cons x l ih => intro a h; exact ih _ (by show 1 ≤ 10 * a + _; omega)
  intro l c hc h
  have h1 := digit_bd hc
  have h2 : c.toNat ≠ 48 := fun e => h (by rw [← UInt8.toNat_inj, e]; rfl)
  exact key l _ (by show 1 ≤ 10 * 0 + _; omega)
/-- A numeral without a leading zero is that of its number. -/
theorem dec_num : ∀ (n : Nat) (l : List UInt8), l.length = n → l ≠ [] → l.all digitB = true → (l.length = 1 ∨ l.head? ≠ some 48) → Lib.decDigits (numL l) = l
  | 0, l, h, hne, _, _ => absurd (List.eq_nil_of_length_eq_zero h) hne
  | n + 1, l, h, hne, ha, hz => by
    obtain ⟨m, c, rfl⟩ : ∃ m c, l = m ++ [c] := ⟨l.dropLast, l.getLast hne, (List.dropLast_concat_getLast hne).symm⟩
    have hm : m.length = n := by simpa using h
    simp only [List.all_append, List.all_cons, List.all_nil, Bool.and_true, Bool.and_eq_true] at ha
    have hc := digit_bd ha.2
    cases m with
    | nil =>
      have e : numL ([] ++ [c]) = c.toNat - 48 := by simp [numL]
      rw [e, Lib.decDigits_one (by omega), byte_of_digit c ha.2]
      rfl
    | cons x m =>
      have hz' : ((x :: m) ++ [c]).head? ≠ some 48 := by
        rcases hz with hz | hz
        · simp at hz
        · exact hz
      have hx : x ≠ 48 := fun e => hz' (by simp [e])
      have hxd : digitB x = true := by simp only [List.all_cons, Bool.and_eq_true] at ha; exact ha.1.1
      have ih := dec_num n (x :: m) hm (by simp) ha.1 (.inr (by simpa using hx))
      have hp := numL_pos m x hxd hx
      rw [numL_snoc, Lib.decDigits, dif_neg (by omega)]
      rw [show (10 * numL (x :: m) + (c.toNat - 48)) / 10 = numL (x :: m) by omega, show (10 * numL (x :: m) + (c.toNat - 48)) % 10 = c.toNat - 48 by omega, ih, byte_of_digit c ha.2]
theorem dec_ne (u : Nat) : Lib.decDigits u ≠ [] := by
  rw [Lib.decDigits]; split <;> simp
theorem dec_head (u : Nat) : (Lib.decDigits u).head? = some 48 → u = 0 := by
  induction u using Nat.strongRecOn with
  | ind u ih =>
    intro h
    rw [Lib.decDigits] at h
    split at h
    · rename_i hu
      simp only [List.head?_cons, Option.some.injEq] at h
      have := congrArg UInt8.toNat h
      simp at this
      omega
    · rename_i hu
      have e : (Lib.decDigits (u / 10) ++ [UInt8.ofNat (48 + u % 10)]).head? = (Lib.decDigits (u / 10)).head? := by
        have := dec_ne (u / 10)
        match hh : Lib.decDigits (u / 10), this with
        | x :: r, _ => rfl
      rw [e] at h
      have := ih (u / 10) (by omega) h
      omega
theorem dec_num_iff (l : List UInt8) (hne : l ≠ []) (ha : l.all digitB = true) : (Lib.decDigits (numL l) = l) ↔ ¬ (l.head? = some 48 ∧ 1 < l.length) := by
  constructor
  · rintro h ⟨h1, h2⟩
    have h3 := dec_head (numL l) (by rw [h]; exact h1)
    rw [h3] at h
    rw [← h] at h2
    rw [Lib.decDigits_one (by omega)] at h2
    simp at h2
  · intro h
    refine dec_num l.length l rfl hne ha ?_
    by_cases h1 : l.head? = some 48
    · left
      have : 0 < l.length := List.length_pos_iff.2 hne
      have : ¬ 1 < l.length := fun h2 => h ⟨h1, h2⟩
      omega
    · exact .inr h1

/-! ### P28.2 -/
def leadB (l : List UInt8) : Bool := decide (l.head? = some 48) && decide (1 < l.length)
def deathsL (l : List UInt8) : Int :=
  if l.length < 1 ∨ 13 < l.length then 0 else if l.all digitB = false then 0 else if leadB l = true then 0 else if 1099511627776 < numL l then 0 else (numL l : Int)
/-- The key of the deaths. -/
abbrev kDeaths : ByteArray := ⟨#[100, 101, 97, 116, 104, 115]⟩
abbrev kDied : ByteArray := ⟨#[100, 105, 101, 100]⟩
def deathsE (l : List Pr) : Int := deathsL (getV l kDeaths).data.toList
theorem deaths_short (s : ByteArray) (h : s.size < 1) : deathsL s.data.toList = 0 := by
  rw [deathsL, if_pos (by simp only [size_data]; omega)]
theorem deaths_long (s : ByteArray) (h : 13 < s.size) : deathsL s.data.toList = 0 := by
  rw [deathsL, if_pos (by simp only [size_data]; omega)]
theorem deaths_mid (s : ByteArray) (h : 1 ≤ s.size) (h2 : s.size ≤ 13) : deathsL s.data.toList = if s.data.toList.all digitB = false then 0 else if leadB s.data.toList = true then 0 else if 1099511627776 < numL s.data.toList then 0 else (numL s.data.toList : Int) := by
  rw [deathsL, if_neg (by simp only [size_data]; omega)]
theorem getV_none {l : List Pr} {k : ByteArray} (h : getH l k = false) : getV l k = ByteArray.empty := by
  simp only [getH] at h
  simp only [getV]
  cases hg : getP l k with
  | none => rfl
  | some v => rw [hg] at h; simp at h
theorem all_take (p : UInt8 → Bool) (s : ByteArray) (k : Nat) (hk : k < s.size) : (s.data.toList.take (k + 1)).all p = ((s.data.toList.take k).all p && p s[k]) := by
  rw [take_at s k hk, List.all_append]; simp
theorem num_take (s : ByteArray) (k : Nat) (hk : k < s.size) : numL (s.data.toList.take (k + 1)) = 10 * numL (s.data.toList.take k) + (s[k].toNat - 48) := by
  rw [take_at s k hk, numL_snoc]
theorem lead_at (s : ByteArray) (h : 1 ≤ s.size) : leadB s.data.toList = ((s[0] == 48) && decide (1 < s.size)) := by
  have c : s.data.toList.head? = some s[0] := by
    rw [List.head?_eq_getElem?, List.getElem?_eq_getElem (by simp only [size_data]; omega)]; rfl
  rw [leadB, c, size_data]
  congr 1
  rw [Bool.eq_iff_iff]; simp
theorem all_bad (s : ByteArray) (k : Nat) (hk : k < s.size) (h : digitB s[k] = false) : s.data.toList.all digitB = false := by
  rw [List.all_eq_false]
  exact ⟨s[k], List.getElem_mem (l := s.data.toList) (n := k) (by simpa using hk), by rw [h]; decide⟩
end Go.Proofs.YthilbmdpbmkakaaDoor
