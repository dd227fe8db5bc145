/- Opening of the arguments: messages, descriptions, entries. -/
import Derived.Test.YthilbmdpbmkakaaDoorMessageC
import Derived.ProofKit
import Derived.Deep.Slices
import Derived.Deep.Fields
import Derived.Lib.LaidU8
set_option linter.unusedVariables false
set_option linter.unusedSimpArgs false
namespace Go.Proofs.YthilbmdpbmkakaaDoor
open Go Go.RowKit Go.WideShapes Go.ChangeShapes Go.Deep

section
variable {H : Type} {enc : TypeId × Value → H} {w : World} {base : Nat} {spare : Nat → Bool} {held : Bool}
theorem len2 {α : Type} {l : List α} (h : l.length = 2) : ∃ a b, l = [a, b] :=
  match l, h with
  | [a, b], _ => ⟨a, b, rfl⟩
theorem len5 {α : Type} {l : List α} (h : l.length = 5) : ∃ a b c d e, l = [a, b, c, d, e] :=
  match l, h with
  | [a, b, c, d, e], _ => ⟨a, b, c, d, e, rfl⟩
theorem len9 {α : Type} {l : List α} (h : l.length = 9) : ∃ a b c d e f g i j, l = [a, b, c, d, e, f, g, i, j] :=
  match l, h with
  | [a, b, c, d, e, f, g, i, j], _ => ⟨a, b, c, d, e, f, g, i, j, rfl⟩
theorem len12 {α : Type} {l : List α} (h : l.length = 12) : ∃ x y z a b c d e f g i j, l = [x, y, z, a, b, c, d, e, f, g, i, j] :=
  match l, h with
  | [x, y, z, a, b, c, d, e, f, g, i, j], _ => ⟨x, y, z, a, b, c, d, e, f, g, i, j, rfl⟩
theorem cell1 (P : Program) {m t o i : Nat} {cs : List Value} {c : Value} {xs : List (DataW H × List MemPlace)} (hf : DataW.trod enc P w base spare held m t ((cs.drop o).take (P.cellsOf t)) = xs[i]?) (hi : i < xs.length) (hc : P.cellsOf t = 1) (hg : cs[o]? = some c) :
    ∃ y, DataW.trod enc P w base spare held m t [c] = some y := by
  rw [hc, List.getElem?_eq_getElem hi] at hf
  obtain ⟨ho, he⟩ := List.getElem?_eq_some_iff.1 hg
  rw [List.drop_eq_getElem_cons ho, he] at hf
  exact ⟨_, hf⟩
theorem f_str {m i : Nat} {o : Nat} {cs : List Value} {c : Value} {xs : List (DataW H × List MemPlace)} (hf : DataW.trod enc Tryd.prog w base spare held m 9 ((cs.drop o).take (Tryd.prog.cellsOf 9)) = xs[i]?) (hi : i < xs.length) (hg : cs[o]? = some c) :
    ∃ s : ByteArray, c = .string s ∧ s.size ≤ maxLen := by
  obtain ⟨y, hy⟩ := cell1 _ hf hi (by kernel_rfl) hg
  obtain ⟨s, h, _, hs⟩ := DataW.trod_string Tryd.underlying9 hy
  exact ⟨s, List.cons.inj h |>.1, hs⟩
theorem f_int {m i : Nat} {o : Nat} {cs : List Value} {c : Value} {xs : List (DataW H × List MemPlace)} (hf : DataW.trod enc Tryd.prog w base spare held m 3 ((cs.drop o).take (Tryd.prog.cellsOf 3)) = xs[i]?) (hi : i < xs.length) (hg : cs[o]? = some c) :
    ∃ n : Int, c = .int .i64 n ∧ -9223372036854775808 ≤ n ∧ n ≤ 9223372036854775807 := by
  obtain ⟨y, hy⟩ := cell1 _ hf hi (by kernel_rfl) hg
  obtain ⟨n, h, _, hw⟩ := DataW.trod_int Tryd.underlying3 hy
  have hx : -9223372036854775808 ≤ n ∧ n ≤ 9223372036854775807 := by simpa [Lit.wf, IntKind.min, IntKind.max, IntKind.signed, IntKind.bits] using hw
  exact ⟨n, List.cons.inj h |>.1, hx⟩
theorem f_bool {m i : Nat} {o : Nat} {cs : List Value} {c : Value} {xs : List (DataW H × List MemPlace)} (hf : DataW.trod enc Tryd.prog w base spare held m 4 ((cs.drop o).take (Tryd.prog.cellsOf 4)) = xs[i]?) (hi : i < xs.length) (hg : cs[o]? = some c) :
    ∃ b : Bool, c = .bool b := by
  obtain ⟨y, hy⟩ := cell1 _ hf hi (by kernel_rfl) hg
  obtain ⟨b, h, _⟩ := DataW.trod_bool Tryd.underlying4 hy
  exact ⟨b, List.cons.inj h |>.1⟩
theorem open_pair {m : Nat} {cs : List Value} {x : DataW H × List MemPlace} (h : DataW.trod enc Tryd.prog w base spare held m 35 cs = some x) :
    ∃ p : Pr, cs = encP p ∧ p.1.size ≤ maxLen ∧ p.2.size ≤ maxLen := by
  obtain ⟨xs, n, _, _, hl, hx, hf⟩ := DataW.trod_struct Tryd.underlying35 h
  have h2 : Tryd.prog.cellsOf 35 = 2 := by kernel_rfl
  rw [h2] at hl
  obtain ⟨c0, c1, rfl⟩ := len2 hl
  obtain ⟨s0, rfl, h0⟩ := f_str (hf 0 _ rfl) (by rw [hx]; simp) (c := c0) rfl
  obtain ⟨s1, rfl, h1⟩ := f_str (hf 1 _ rfl) (by rw [hx]; simp) (c := c1) rfl
  exact ⟨(s0, s1), rfl, h0, h1⟩
/-- A slice of properties that came in. -/
theorem open_props {m : Nat} {c : Value} {x : DataW H × List MemPlace} (h : DataW.trod enc Tryd.prog w base (fun _ => true) held m 24 [c] = some x) :
    ∃ (A : Option Addr) (cap : Nat) (l : List Pr), c = .slice A l.length cap ∧ l.length ≤ maxLen ∧ PrFit l ∧ Rd encP 2 w A l := by
  rcases open_slice Tryd.underlying24 h with ⟨hc, _⟩ | ⟨a, len, cap, k, n, D, Pl, hc, hb, hl, hm, hk, hx, hi⟩
  · exact ⟨none, 0, [], List.cons.inj hc |>.1, by simp [maxLen], fun p hp => by simp at hp, Rd.nil _ _ _ _⟩
  · have hlen : len ≤ k := by rw [hk]; exact hl
    have h2 : Tryd.prog.cellsOf 35 = 2 := by kernel_rfl
    rw [h2] at hi
    have key : ∀ i, i < k → ∃ p : Pr, (∀ j u, (encP p)[j]? = some u → w.cell? ((a.add (i * 2)).add j) = some u) ∧ p.1.size ≤ maxLen ∧ p.2.size ≤ maxLen := by
      intro i hik
      obtain ⟨cs, hcs, ht⟩ := hi i hik
      obtain ⟨p, rfl, h0, h1⟩ := open_pair ht
      obtain ⟨_, hcl, hat⟩ := World.cells?_some hcs
      exact ⟨p, fun j u hu => (hat j (List.getElem?_eq_some_iff.1 hu).1).trans hu, h0, h1⟩
    have key' : ∃ f : Nat → Pr, ∀ i, i < k → (∀ j u, (encP (f i))[j]? = some u → w.cell? ((a.add (i * 2)).add j) = some u) ∧ (f i).1.size ≤ maxLen ∧ (f i).2.size ≤ maxLen :=
      ⟨fun i => if h : i < k then (key i h).choose else (ByteArray.empty, ByteArray.empty), fun i h => by simpa only [h, dite_true] using (key i h).choose_spec⟩
    obtain ⟨f, hf⟩ := key'
    refine ⟨some a, cap, (List.range len).map f, by simpa using hc, by simp; omega, fun p hp => ?_, fun hl0 => ?_⟩
    · obtain ⟨i, hi', rfl⟩ := List.mem_map.1 hp
      have hi' := List.mem_range.1 hi'
      exact (hf i (by omega)).2
    · have h0 : 0 < len := by simpa using hl0
      have hc0 := (hf 0 (by omega)).1 0 _ rfl
      obtain ⟨ab, ao, asp⟩ := a
      have hc0' : w.cell? ⟨ab, ao, asp⟩ = some (.string (f 0).1) := by simpa [Addr.add] using hc0
      obtain rfl := cell_spot hc0'
      refine ⟨ab, ao, rfl, World.block_lt_of_cell? w _ (by simpa [Addr.add] using hc0), fun j hj i u hu => ?_⟩
      have hj' : j < len := by simpa using hj
      have hu' : (encP (f j))[i]? = some u := by simpa using hu
      have := (hf j (by omega)).1 i u hu'
      have e : ((⟨ab, ao, none⟩ : Addr).add (j * 2)).add i = ⟨ab, ao + j * 2 + i, none⟩ := by
        unfold Addr.add
        split <;> split <;> simp_all
      rw [e] at this
      exact this
/-- A message that came in, by its cells. -/
theorem open_msg {m : Nat} {cs : List Value} {x : DataW H × List MemPlace} (h : DataW.trod enc Tryd.prog w base (fun _ => true) held m 26 cs = some x) :
    ∃ (t p : ByteArray) (lv : Int) (rt : Bool) (pr ex : Int) (fr : ByteArray) (sq : Int) (A : Option Addr) (cap : Nat) (l : List Pr),
      cs = [.string t, .string p, .int .i64 lv, .bool rt, .int .i64 pr, .int .i64 ex, .string fr, .int .i64 sq, .slice A l.length cap] ∧
      t.size ≤ maxLen ∧ p.size ≤ maxLen ∧ fr.size ≤ maxLen ∧ l.length ≤ maxLen ∧ PrFit l ∧ Rd encP 2 w A l := by
  obtain ⟨xs, n, _, _, hl, hx, hf⟩ := DataW.trod_struct Tryd.underlying26 h
  have h9 : Tryd.prog.cellsOf 26 = 9 := by kernel_rfl
  rw [h9] at hl
  obtain ⟨c0, c1, c2, c3, c4, c5, c6, c7, c8, rfl⟩ := len9 hl
  obtain ⟨t, rfl, ht⟩ := f_str (hf 0 _ rfl) (by rw [hx]; simp) (c := c0) rfl
  obtain ⟨p, rfl, hp⟩ := f_str (hf 1 _ rfl) (by rw [hx]; simp) (c := c1) rfl
  obtain ⟨lv, rfl, _, _⟩ := f_int (hf 2 _ rfl) (by rw [hx]; simp) (c := c2) rfl
  obtain ⟨rt, rfl⟩ := f_bool (hf 3 _ rfl) (by rw [hx]; simp) (c := c3) rfl
  obtain ⟨pr, rfl, _, _⟩ := f_int (hf 4 _ rfl) (by rw [hx]; simp) (c := c4) rfl
  obtain ⟨ex, rfl, _, _⟩ := f_int (hf 5 _ rfl) (by rw [hx]; simp) (c := c5) rfl
  obtain ⟨fr, rfl, hfr⟩ := f_str (hf 6 _ rfl) (by rw [hx]; simp) (c := c6) rfl
  obtain ⟨sq, rfl, _, _⟩ := f_int (hf 7 _ rfl) (by rw [hx]; simp) (c := c7) rfl
  obtain ⟨y, hy⟩ := cell1 _ (hf 8 _ rfl) (by rw [hx]; simp) (by kernel_rfl) (c := c8) rfl
  obtain ⟨A, cap, l, rfl, h1, h2, h3⟩ := open_props hy
  exact ⟨t, p, lv, rt, pr, ex, fr, sq, A, cap, l, rfl, ht, hp, hfr, h1, h2, h3⟩
end
end Go.Proofs.YthilbmdpbmkakaaDoor
