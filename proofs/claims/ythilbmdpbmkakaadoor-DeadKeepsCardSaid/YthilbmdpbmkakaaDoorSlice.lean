/- Slices: a row that is read (Rd), a row of the call's own (Own), and append to it. For elements of k cells each, as a function enc tells. -/
import Derived.Test.YthilbmdpbmkakaaDoorWords
import Derived.Maps.AppendAt
import Derived.Deep.AppendLies
set_option linter.unusedVariables false
set_option linter.unusedSimpArgs false
namespace Go.Proofs.YthilbmdpbmkakaaDoor
open Go Go.RowKit

/-- The elements l lie behind A, k cells each. -/
def Rd {α : Type} (enc : α → List Value) (k : Nat) (w : World) (A : Option Addr) (l : List α) : Prop :=
  0 < l.length → ∃ b off, A = some ⟨b, off, none⟩ ∧ b < w.heap.size ∧ ∀ j (h : j < l.length) i u, (enc l[j])[i]? = some u → w.cell? ⟨b, off + j * k + i, none⟩ = some u
theorem Rd.nil {α : Type} (enc : α → List Value) (k : Nat) (w : World) (A : Option Addr) : Rd enc k w A [] := fun h => absurd h (by simp)
theorem Rd.ext {α : Type} {enc : α → List Value} {k : Nat} {w w' : World} {A : Option Addr} {l : List α} (h : Rd enc k w A l) (he : Ext w w') : Rd enc k w' A l := fun hl => by
  obtain ⟨b, off, hA, hb, hc⟩ := h hl
  exact ⟨b, off, hA, Nat.lt_of_lt_of_le hb he.size, fun j hj i u hu => he.cell (hc j hj i u hu)⟩
theorem Rd.at {α : Type} {enc : α → List Value} {k : Nat} {w : World} {A : Option Addr} {l : List α} (h : Rd enc k w A l) {j : Nat} (hj : j < l.length) :
    ∃ b off, A = some ⟨b, off, none⟩ ∧ b < w.heap.size ∧ ∀ i u, (enc l[j])[i]? = some u → w.cell? ⟨b, off + j * k + i, none⟩ = some u := by
  obtain ⟨b, off, hA, hb, hc⟩ := h (by omega)
  exact ⟨b, off, hA, hb, hc j hj⟩

/-- A row of the call's own: in a block from base on, its elements' type is e. -/
def Own {α : Type} (enc : α → List Value) (k e base : Nat) (w : World) (v : Value) (l : List α) : Prop := w.ownsRow base e k v l.length (l.flatMap enc)
theorem flat_length {α : Type} {enc : α → List Value} {k : Nat} (hk : ∀ x, (enc x).length = k) (l : List α) : (l.flatMap enc).length = l.length * k := by
  induction l with
  | nil => simp
  | cons x l ih => simp [hk, ih, Nat.add_mul]; omega
theorem flat_get {α : Type} {enc : α → List Value} {k : Nat} (hk : ∀ x, (enc x).length = k) : ∀ (l : List α) (j : Nat) (hj : j < l.length) (i : Nat) (u : Value), (enc l[j])[i]? = some u → (l.flatMap enc)[j * k + i]? = some u
  | [], j, hj, _, _, _ => by simp at hj
  | x :: l, 0, _, i, u, hu => by
    have hi : i < (enc x).length := (List.getElem?_eq_some_iff.1 hu).1
    simp only [List.flatMap_cons, Nat.zero_mul, Nat.zero_add]
    rw [List.getElem?_append_left hi]
    exact hu
  | x :: l, j + 1, hj, i, u, hu => by
    simp only [List.flatMap_cons]
    have e : (j + 1) * k + i = k + (j * k + i) := by rw [Nat.add_mul]; omega
    rw [e, List.getElem?_append_right (by rw [hk]; omega), hk, Nat.add_sub_cancel_left]
    exact flat_get hk l j (by simpa using hj) i u hu
theorem Own.nil {α : Type} (enc : α → List Value) (k e base : Nat) (w : World) : Own enc k e base w (.slice none 0 0) ([] : List α) := ⟨by simp, .inl ⟨rfl, rfl⟩⟩
theorem Own.kept {α : Type} {enc : α → List Value} {k e base : Nat} {w w1 : World} {v : Value} {l : List α} (h : Own enc k e base w v l) {row : Option Nat} (hg : w.grownBy w1 row) (hne : v.ownBlock = none ∨ v.ownBlock ≠ row) : Own enc k e base w1 v l := World.ownsRow.kept h hg hne
theorem grown_of_below {w w1 : World} (h : Below w.heap.size w w1) (row : Option Nat) : w.grownBy w1 row := ⟨h.os, h.tape, h.output, h.size, fun i hi _ => h.block i hi⟩
theorem Own.ext {α : Type} {enc : α → List Value} {k e base : Nat} {w w1 : World} {v : Value} {l : List α} (h : Own enc k e base w v l) (he : Ext w w1) : Own enc k e base w1 v l :=
  h.kept (grown_of_below he none) (by cases v.ownBlock <;> simp)
theorem Own.base {α : Type} {enc : α → List Value} {k e base : Nat} {w : World} {v : Value} {l : List α} (h : Own enc k e base w v l) (g : Nat) (hg : v.ownBlock = some g) : base ≤ g := by
  rcases h.2 with ⟨rfl, _⟩ | ⟨b, cap, cur, rfl, hb, _⟩
  · simp [Value.ownBlock] at hg
  · have : b = g := by simpa [Value.ownBlock] using hg
    omega
theorem Own.lt {α : Type} {enc : α → List Value} {k e base : Nat} {w : World} {v : Value} {l : List α} (h : Own enc k e base w v l) (g : Nat) (hg : v.ownBlock = some g) : g < w.heap.size := by
  rcases h.2 with ⟨rfl, _⟩ | ⟨b, cap, cur, rfl, hb, hh, _⟩
  · simp [Value.ownBlock] at hg
  · have : b = g := by simpa [Value.ownBlock] using hg
    subst this
    exact (Array.getElem?_eq_some_iff.1 hh).1
/-- What is owned can be read. -/
theorem Own.rd {α : Type} {enc : α → List Value} {k e base : Nat} {w : World} {v : Value} {l : List α} (hk : ∀ x, (enc x).length = k) (h : Own enc k e base w v l) :
    ∃ A c, v = .slice A l.length c ∧ l.length ≤ c ∧ c ≤ maxLen ∧ Rd enc k w A l := by
  rcases h.2 with ⟨rfl, hl⟩ | ⟨g, cap, cur, rfl, hb, hh, hn, hc, hsz, ht⟩
  · exact ⟨none, 0, by rw [hl], by omega, by simp [maxLen], fun h0 => absurd h0 (by omega)⟩
  · refine ⟨_, cap, rfl, hn, hc, fun _ => ⟨g, 0, rfl, (Array.getElem?_eq_some_iff.1 hh).1, fun j hj i u hu => ?_⟩⟩
    have h1 := flat_get hk l j hj i u hu
    rw [← ht, List.getElem?_take] at h1
    split at h1
    · rw [cell_of_row w g (0 + j * k + i) cur e (0, 0) hh, Nat.zero_add, ← Array.getElem?_toList]; exact h1
    · cases h1
/-- The whole block of an owned row that is not nil. -/
theorem Own.form {α : Type} {enc : α → List Value} {k e base : Nat} {w : World} {v : Value} {l : List α} (h : Own enc k e base w v l) (hl : 0 < l.length) :
    ∃ g cap cur, v = .slice (some ⟨g, 0, none⟩) l.length cap ∧ base ≤ g ∧ w.heap[g]? = some (.cells cur e (0, 0)) ∧ l.length ≤ cap ∧ cap ≤ maxLen ∧ cur.size = cap * k ∧ cur.toList.take (l.length * k) = l.flatMap enc := by
  rcases h.2 with ⟨rfl, h0⟩ | h
  · omega
  · exact h

section
variable {P : Program} {ops : Array Oper} {rest : List Oper} {o : Oper} {a : Act} {Q : Exit → Act → World → Prop}
/-- append(v, x): behind 'at_builtin'; the goal's world is 'W.alloc' of the variadic's box. -/
theorem wp_append1 {α : Type} (enc : α → List Value) {w0 W : World} (base : Nat) (hgd : o.guard = none) (s x : Operand) (t e : TypeId) (z : Value) (k bytes : Nat)
    (ho : o.op = .call { callee := .builtin .append, args := #[s, x], argTypes := #[t, t] })
    (ht : P.underlying t = some (.slice e)) (hinfo : (P.info? e).map (fun i => (i.zero, i.size, i.bytes)) = some (some z, k, bytes)) (hz : z.cells.size = k) (hk0 : 0 < k) (hb0 : 0 < bytes)
    (hk : ∀ x, (enc x).length = k) (h1 : ∀ x, ∀ u ∈ enc x, u.oneCell' = true)
    (v : Value) (l : List α) (y : α) (hs : a.eval s = v) (hx : a.eval x = .slice (some ⟨W.heap.size, 0, none⟩) 1 1)
    (HO : Own enc k e base W v l) (HB : Below base w0 W) (hbase : base ≤ W.heap.size) (hl : (l.length + 1) * bytes ≤ 140737488355328)
    (h : ∀ v1 w1, Own enc k e base w1 v1 (l ++ [y]) → Below base w0 w1 → W.grownBy w1 v.ownBlock → (v1.ownBlock = v.ownBlock ∨ ∃ b, v1.ownBlock = some b ∧ W.heap.size ≤ b) → wpList P ops Q rest (a.put o.dst v1) w1) :
    wpList P ops Q (o :: rest) a (W.alloc (.cells (enc y).toArray e)) := by
  obtain ⟨i0, hi, hzz⟩ := Option.map_eq_some_iff.1 hinfo
  simp only [Prod.mk.injEq] at hzz
  obtain ⟨hz0, hz1, hz2⟩ := hzz
  have hlen : l.length + 1 ≤ 140737488355328 := Nat.le_trans (Nat.le_mul_of_pos_right _ hb0) hl
  have HO' : (W.alloc (.cells (enc y).toArray e)).ownsRow base e k v l.length (l.flatMap enc) := World.ownsRow.alloc HO _
  refine wpList_append_own_at (W.alloc (.cells (enc y).toArray e)) hgd s x t ho base e i0 z k bytes ht hi hz0 hz1 hz2 hz hk0 v l.length (l.flatMap enc) hs HO' ⟨W.heap.size, 0, none⟩ 1 1 (enc y) hx (by rw [hk]; simp)
    (by simpa using World.news_of_block (cs := (enc y).toArray) (t := e) (fr := (0, 0)) (heap_alloc_new W (.cells (enc y).toArray e))) (h1 y) (by simp only [maxLen]; omega) hl (by simp; omega) ?_
  intro v1 w1 hown hg _ hat
  refine h v1 w1 ?_ ((HB.alloc hbase _).grown hg (by simp; omega) (Own.base HO)) (World.grownBy.trans (World.grownBy_alloc W _ _) hg) ?_
  · unfold Own
    rw [List.length_append, List.flatMap_append]
    simpa using hown
  · rcases hat with hat | hat
    · exact .inl hat
    · exact .inr ⟨_, hat, by simp⟩
end
section
variable {P : Program} {ops : Array Oper} {rest : List Oper} {o : Oper} {a : Act} {Q : Exit → Act → World → Prop}
/-- append(v, xs...): behind 'at_builtin'. -/
theorem wp_appendN {α : Type} (enc : α → List Value) {w0 W : World} (base : Nat) (hgd : o.guard = none) (s x : Operand) (t e : TypeId) (z : Value) (k bytes : Nat)
    (ho : o.op = .call { callee := .builtin .append, args := #[s, x], argTypes := #[t, t] })
    (ht : P.underlying t = some (.slice e)) (hinfo : (P.info? e).map (fun i => (i.zero, i.size, i.bytes)) = some (some z, k, bytes)) (hz : z.cells.size = k) (hk0 : 0 < k) (hb0 : 0 < bytes)
    (hk : ∀ x, (enc x).length = k) (h1 : ∀ x, ∀ u ∈ enc x, u.oneCell' = true)
    (v : Value) (l ys : List α) (b off c : Nat) (hs : a.eval s = v) (hx : a.eval x = .slice (some ⟨b, off, none⟩) ys.length c)
    (hy : ∀ j (h : j < ys.length) i u, (enc ys[j])[i]? = some u → W.cell? ⟨b, off + j * k + i, none⟩ = some u)
    (HO : Own enc k e base W v l) (HB : Below base w0 W) (hbase : base ≤ W.heap.size) (hl : (l.length + ys.length) * bytes ≤ 140737488355328)
    (h : ∀ v1 w1, Own enc k e base w1 v1 (l ++ ys) → Below base w0 w1 → W.grownBy w1 v.ownBlock → (v1.ownBlock = v.ownBlock ∨ ∃ b, v1.ownBlock = some b ∧ W.heap.size ≤ b) → wpList P ops Q rest (a.put o.dst v1) w1) :
    wpList P ops Q (o :: rest) a W := by
  obtain ⟨i0, hi, hzz⟩ := Option.map_eq_some_iff.1 hinfo
  simp only [Prod.mk.injEq] at hzz
  obtain ⟨hz0, hz1, hz2⟩ := hzz
  have hlen : l.length + ys.length ≤ 140737488355328 := Nat.le_trans (Nat.le_mul_of_pos_right _ hb0) hl
  refine wpList_append_own_at W hgd s x t ho base e i0 z k bytes ht hi hz0 hz1 hz2 hz hk0 v l.length (l.flatMap enc) hs HO ⟨b, off, none⟩ ys.length c (ys.flatMap enc) hx (flat_length hk ys)
    (fun j u hu => ?_) (fun u hu => ?_) (by simp only [maxLen]; omega) hl hbase ?_
  · have hj : j < ys.length * k := by have := (List.getElem?_eq_some_iff.1 hu).1; rwa [flat_length hk] at this
    have hq : j / k < ys.length := (Nat.div_lt_iff_lt_mul hk0).2 hj
    have hr : j % k < k := Nat.mod_lt _ hk0
    have e2 : j / k * k + j % k = j := by rw [Nat.mul_comm]; exact Nat.div_add_mod j k
    have hlen2 : (enc ys[j / k]).length = k := hk _
    have h3 := flat_get hk ys (j / k) hq (j % k) _ (List.getElem?_eq_getElem (by omega))
    rw [e2, hu] at h3
    have h4 := hy (j / k) hq (j % k) u (by rw [List.getElem?_eq_getElem (by omega)]; exact h3.symm)
    have h5 : (⟨b, off, none⟩ : Addr).add j = ⟨b, off + j, none⟩ := by unfold Addr.add; split <;> simp_all
    rw [h5, ← h4]
    congr 2
    omega
  · obtain ⟨y, _, hy2⟩ := List.mem_flatMap.1 hu
    exact h1 y u hy2
  · intro v1 w1 hown hg _ hat
    refine h v1 w1 ?_ (HB.grown hg hbase (Own.base HO)) hg ?_
    · unfold Own
      rw [List.length_append, List.flatMap_append]
      exact hown
    · rcases hat with hat | hat
      · exact .inl hat
      · exact .inr ⟨_, hat, Nat.le_refl _⟩
end
/-! ### strings -/
def encS (s : ByteArray) : List Value := [.string s]
theorem encS_len (s : ByteArray) : (encS s).length = 1 := rfl
theorem encS_one (s : ByteArray) : ∀ u ∈ encS s, u.oneCell' = true := by simp [encS, Value.oneCell']
theorem Rd.str {w : World} {A : Option Addr} {l : List ByteArray} (h : Rd encS 1 w A l) {j : Nat} (hj : j < l.length) :
    ∃ b off, A = some ⟨b, off, none⟩ ∧ b < w.heap.size ∧ w.cell? ⟨b, off + j, none⟩ = some (.string l[j]) := by
  obtain ⟨b, off, hA, hb, hc⟩ := h.at hj
  exact ⟨b, off, hA, hb, by simpa using hc 0 _ rfl⟩
/-! ### properties -/
abbrev Pr := ByteArray × ByteArray
def encP (p : Pr) : List Value := [.string p.1, .string p.2]
theorem encP_len (p : Pr) : (encP p).length = 2 := rfl
theorem encP_one (p : Pr) : ∀ u ∈ encP p, u.oneCell' = true := by simp [encP, Value.oneCell']
theorem Rd.pr {w : World} {A : Option Addr} {l : List Pr} (h : Rd encP 2 w A l) {j : Nat} (hj : j < l.length) :
    ∃ b off, A = some ⟨b, off, none⟩ ∧ b < w.heap.size ∧ w.cell? ⟨b, off + j * 2, none⟩ = some (.string l[j].1) ∧ w.cell? ⟨b, off + j * 2 + 1, none⟩ = some (.string l[j].2) := by
  obtain ⟨b, off, hA, hb, hc⟩ := h.at hj
  exact ⟨b, off, hA, hb, hc 0 _ rfl, hc 1 _ rfl⟩
end Go.Proofs.YthilbmdpbmkakaaDoor
