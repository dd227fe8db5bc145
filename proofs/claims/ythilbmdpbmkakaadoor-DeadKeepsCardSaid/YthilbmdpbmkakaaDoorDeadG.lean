/- Contracts of chapter 28: the marks of the examples. -/
import Derived.Test.YthilbmdpbmkakaaDoorDeadF
import Derived.Deep.DeepCutAuto
set_option linter.unusedVariables false
set_option linter.unusedSimpArgs false
namespace Go.Proofs.YthilbmdpbmkakaaDoor
open Go Go.RowKit

theorem strI_digit (n : Nat) (h : n < 10) : strI n = ⟨#[UInt8.ofNat (48 + n)]⟩ := by
  rw [strI, Lib.itoa_nonneg, Lib.decDigits_one h]
theorem keys_inj {a b : Pr} : ∀ {m : List Pr}, (m.Pairwise fun p q => p.1.data.toList ≠ q.1.data.toList) → a ∈ m → b ∈ m → a.1.data.toList = b.1.data.toList → a = b
  | [], _, h, _, _ => by simp at h
  | x :: m, hk, ha, hb, e => by
    rw [List.pairwise_cons] at hk
    rcases List.mem_cons.1 ha with rfl | ha' <;> rcases List.mem_cons.1 hb with rfl | hb'
    · rfl
    · exact absurd e (hk.1 b hb')
    · exact absurd e.symm (hk.1 a ha')
    · exact keys_inj hk.2 ha' hb' e
/-- A sorted row is known by its members, where keys name members. -/
theorem asc_eq {l m : List Pr} (hp : l.Perm m) (hl : AscP l) (hm : AscP m) (hk : m.Pairwise fun p q => p.1.data.toList ≠ q.1.data.toList) : l = m :=
  List.Perm.eq_of_pairwise (le := fun p q : Pr => bl q.1.data.toList p.1.data.toList = false) (fun a b ha hb h1 h2 => keys_inj hk (hp.mem_iff.1 ha) hb (bl_tri h2 h1)) hl hm hp
abbrev msgV (t : ByteArray) (s : Value) : Value := .agg #[.string t, .string ⟨#[]⟩, .int .i64 0, .bool false, .int .i64 0, .int .i64 0, .string ⟨#[]⟩, .int .i64 0, s]
theorem mark_c (q : ByteArray) (l os L : List Pr) (reason : Int) (A : Option Addr) (c : Nat) (t : ByteArray) (w : World) (hl : l.length ≤ maxLen) (hf : PrFit l) (hr : Rd encP 2 w A l) (hg : Glob w)
    (hr0 : -9223372036854775808 ≤ reason) (hr1 : reason ≤ 9223372036854775807) (hq : q.size ≤ 4096) (hos : marksP q l reason = os) (hL : L.Perm (keepP os 6 l ++ os)) (ha : AscP L)
    (hk : L.Pairwise fun p q => p.1.data.toList ≠ q.1.data.toList) :
    Calls Tryd.prog 19 #[.string q, msgV t (.slice A l.length c), .int .i64 reason] w fun e w' => ∃ A' c', e = .returned (msgV t (.slice A' L.length c')) ∧ Rd encP 2 w' A' L ∧ Ext w w' :=
  (dead_Mark q t _ _ _ _ _ _ _ A c l reason w hl hf hr hg hr0 hr1 hq).mono fun e w' ⟨out, A', c', he, hp, hasc, hrd, _, hE⟩ => by
    have e1 : out = L := asc_eq ((hos ▸ hp).trans hL.symm) hasc ha hk
    subst e1
    exact ⟨A', c', he, hrd, hE⟩
abbrev bQ : ByteArray := ⟨#[113]⟩
abbrev bP : ByteArray := ⟨#[112]⟩
abbrev b1 : ByteArray := ⟨#[49]⟩
abbrev b2 : ByteArray := ⟨#[50]⟩
/-- Marks of the examples: n deaths, died in x for the reason r. -/
abbrev mkL (n x r : UInt8) : List Pr := [(kDeaths, ⟨#[n]⟩), (kDied, ⟨#[x, 32, r]⟩)]
theorem mark1 (w : World) (hg : Glob w) : Calls Tryd.prog 19 #[.string ⟨#[113]⟩, msgV ⟨#[116]⟩ (.slice none 0 0), .int .i64 1] w fun e w' => ∃ A' c', e = .returned (msgV ⟨#[116]⟩ (.slice A' 2 c')) ∧ Rd encP 2 w' A' (mkL 49 113 49) ∧ Ext w w' := by
  refine mark_c ⟨#[113]⟩ [] (mkL 49 113 49) (mkL 49 113 49) 1 none 0 ⟨#[116]⟩ w (by simp [maxLen]) (by simp [PrFit]) (Rd.nil _ _ _ _) hg (by decide) (by decide) (by decide) ?_ ?_ ?_ ?_
  · have e : nextD [] = ((1 : Nat) : Int) := by
      simp [nextD, deathsE, deathsL, getV, getP]
      try decide
    have e2 : (1 : Int) = ((1 : Nat) : Int) := rfl
    rw [marksP, e, e2, strI_digit 1 (by decide)]
    rfl
  · simp [keepP]
  · simp [AscP, bl, Op.bytesLess]
  · simp
theorem mark2 (w : World) (hg : Glob w) (A : Option Addr) (c : Nat) (hr : Rd encP 2 w A (mkL 49 113 49)) : Calls Tryd.prog 19 #[.string ⟨#[112]⟩, msgV ⟨#[116]⟩ (.slice A 2 c), .int .i64 2] w fun e w' => ∃ A' c', e = .returned (msgV ⟨#[116]⟩ (.slice A' 2 c')) ∧ Rd encP 2 w' A' (mkL 50 112 50) ∧ Ext w w' := by
  refine mark_c ⟨#[112]⟩ (mkL 49 113 49) (mkL 50 112 50) (mkL 50 112 50) 2 A c ⟨#[116]⟩ w (by simp [maxLen]) (by simp [PrFit, maxLen]; decide) hr hg (by decide) (by decide) (by decide) ?_ ?_ ?_ ?_
  · have e : nextD (mkL 49 113 49) = ((2 : Nat) : Int) := by
      simp [nextD, deathsE, deathsL, getV, getP, leadB, numL, digitB]
      try decide
    have e2 : (2 : Int) = ((2 : Nat) : Int) := rfl
    rw [marksP, e, e2, strI_digit 2 (by decide)]
    rfl
  · simp [keepP]
  · simp [AscP, bl, Op.bytesLess]
  · simp
/-- The full message of the examples. -/
abbrev fullL : List Pr := [(⟨#[97]⟩, ⟨#[]⟩), (⟨#[98]⟩, ⟨#[]⟩), (⟨#[99]⟩, ⟨#[]⟩), (⟨#[100]⟩, ⟨#[]⟩), (⟨#[101]⟩, ⟨#[]⟩), (⟨#[102]⟩, ⟨#[]⟩), (⟨#[103]⟩, ⟨#[]⟩), (⟨#[104]⟩, ⟨#[]⟩)]
abbrev fullM : List Pr := [(⟨#[97]⟩, ⟨#[]⟩), (⟨#[98]⟩, ⟨#[]⟩), (⟨#[99]⟩, ⟨#[]⟩), (⟨#[100]⟩, ⟨#[]⟩), (kDeaths, ⟨#[49]⟩), (kDied, ⟨#[113, 32, 51]⟩), (⟨#[101]⟩, ⟨#[]⟩), (⟨#[102]⟩, ⟨#[]⟩)]
theorem mark3 (w : World) (hg : Glob w) (A : Option Addr) (c : Nat) (hr : Rd encP 2 w A fullL) : Calls Tryd.prog 19 #[.string ⟨#[113]⟩, msgV ⟨#[116]⟩ (.slice A 8 c), .int .i64 3] w fun e w' => ∃ A' c', e = .returned (msgV ⟨#[116]⟩ (.slice A' 8 c')) ∧ Rd encP 2 w' A' fullM ∧ Ext w w' := by
  refine mark_c ⟨#[113]⟩ fullL (mkL 49 113 51) fullM 3 A c ⟨#[116]⟩ w (by simp [maxLen]) (by simp [PrFit, maxLen]; decide) hr hg (by decide) (by decide) (by decide) ?_ ?_ ?_ ?_
  · have e : nextD fullL = ((1 : Nat) : Int) := by
      simp [nextD, deathsE, deathsL, getV, getP, leadB, numL, digitB]
      try decide
    have e2 : (3 : Int) = ((3 : Nat) : Int) := rfl
    rw [marksP, e, e2, strI_digit 1 (by decide), strI_digit 3 (by decide)]
    rfl
  · rw [show keepP (mkL 49 113 51) 6 fullL = fullL.take 6 by simp [keepP]]
    decide
  · simp [AscP, bl, Op.bytesLess]
  · simp
abbrev oddL : List Pr := [(kDeaths, ⟨#[48, 55]⟩)]
theorem mark4 (w : World) (hg : Glob w) (A : Option Addr) (c : Nat) (hr : Rd encP 2 w A oddL) : Calls Tryd.prog 19 #[.string ⟨#[113]⟩, msgV ⟨#[116]⟩ (.slice A 1 c), .int .i64 3] w fun e w' => ∃ A' c', e = .returned (msgV ⟨#[116]⟩ (.slice A' 2 c')) ∧ Rd encP 2 w' A' (mkL 49 113 51) ∧ Ext w w' := by
  refine mark_c ⟨#[113]⟩ oddL (mkL 49 113 51) (mkL 49 113 51) 3 A c ⟨#[116]⟩ w (by simp [maxLen]) (by simp [PrFit, maxLen]; decide) hr hg (by decide) (by decide) (by decide) ?_ ?_ ?_ ?_
  · have e : nextD oddL = ((1 : Nat) : Int) := by
      simp [nextD, deathsE, deathsL, getV, getP, leadB, numL, digitB]
      try decide
    have e2 : (3 : Int) = ((3 : Nat) : Int) := rfl
    rw [marksP, e, e2, strI_digit 1 (by decide), strI_digit 3 (by decide)]
    rfl
  · simp [keepP]
  · simp [AscP, bl, Op.bytesLess]
  · simp
end Go.Proofs.YthilbmdpbmkakaaDoor
