/- Rows of k cells of the call's own: copy onto a row, append of zeros, a place between. No program in sight. -/
import Derived.Test.YthilbmdpbmkakaaDoorSlice
import Derived.Lib.AppendZerosOnto
import Derived.Lib.Overlaps
import Derived.Laws.CopyOwn
set_option linter.unusedVariables false
set_option linter.unusedSimpArgs false
namespace Go.Proofs.YthilbmdpbmkakaaDoor
open Go Go.RowKit

theorem run_copy_rowK {P : Program} (w : World) (dT sT ty elem : TypeId) (k g o dLen dCap : Nat) (a : Addr) (sLen sCap n : Nat) (cur : Array Value) (t : TypeId) (cs : List Value)
    (hu : P.underlying dT = some (.slice elem)) (hs : (P.info? elem).map (·.size) = some k) (hg : w.heap[g]? = some (.cells cur t (0, 0))) (hn : Nat.min sLen dLen = n) (hcs : cs.length = n * k)
    (hsrc : ∀ j v, cs[j]? = some v → w.cell? (a.add j) = some v) (hfit : o + cs.length ≤ cur.size) (h1 : ∀ v ∈ cs, v.oneCell' = true) :
    (Builtin.copy_ #[dT, sT] ty #[.slice (some ⟨g, o, none⟩) dLen dCap, .slice (some a) sLen sCap]).run P w =
      .ok (goInt n) (w.setRow g (cur.toList.take o ++ cs ++ cur.toList.drop (o + cs.length)).toArray) := by
  have hl := run_firstCells_some (P := P) w k n a sLen sCap cs hcs hsrc
  have hst := run_storeCells_at P g o t cs 0 cur w hg (by simpa using hfit) h1
  cases hq : P.info? elem with
  | none => simp [hq] at hs
  | some i =>
    have hi : i.size = k := by simpa [hq] using hs
    simp [Builtin.copy_, run_underlying hu, Builtin.lenOf, sizeOf, typeInfo, hq, hi, hn, hl, hst]

theorem grown_setRow {w W : World} {g : Nat} (h : w.grownBy W (some g)) (cs : Array Value) : w.grownBy (W.setRow g cs) (some g) :=
  ⟨h.os, h.tape, h.output, by simpa [World.setRow] using h.size, fun k hk hne => (setRow_other W g k cs (fun e => hne (by rw [e]))).trans (h.block k hk hne)⟩
theorem grown_setNew {w W : World} {b : Nat} {row : Option Nat} (h : w.grownBy W row) (hb : w.heap.size ≤ b) (cs : Array Value) : w.grownBy (W.setRow b cs) row :=
  ⟨h.os, h.tape, h.output, by simpa [World.setRow] using h.size, fun k hk hne => (setRow_other W b k cs (by omega)).trans (h.block k hk hne)⟩
theorem grown_drew {w W : World} {row : Option Nat} (h : w.grownBy W row) : w.grownBy W.drew row := ⟨h.os, h.tape, h.output, h.size, h.block⟩
theorem grown_refl (w : World) (row : Option Nat) : w.grownBy w row := ⟨rfl, rfl, rfl, Nat.le_refl _, fun _ _ _ => rfl⟩
section
variable {P : Program}
/-- 'copy(d, s)' where its run is known by an equation. -/
theorem wp_copy_eq (w : World) {o : Oper} {a : Act} {K : Act → World → Prop} {Q : Exit → Act → World → Prop} (d s : Operand) (t t' : TypeId)
    (ho : o.op = .call { callee := .builtin .copy, args := #[d, s], argTypes := #[t, t'] }) (v u : Value) (hd : a.eval d = v) (hs : a.eval s = u) {v' : Value} {w' : World}
    (hr : (Builtin.copy_ #[t, t'] o.type #[v, u]).run P w = .ok v' w') (h : K (a.put o.dst v') w') : o.wp P a w K Q := by
  unfold Oper.wp execOp
  simp only [ho, resolve, invoke, builtin, Sem.run_bind, Sem.run_pure, Result.andThen_ok, List.map_toArray, List.map_cons, List.map_nil, hd, hs, hr]
  exact h
theorem wpList_copy_eq (w : World) {ops : Array Oper} {rest : List Oper} {o : Oper} {a : Act} {Q : Exit → Act → World → Prop} (hgd : o.guard = none) (d s : Operand) (t t' : TypeId)
    (ho : o.op = .call { callee := .builtin .copy, args := #[d, s], argTypes := #[t, t'] }) (v u : Value) (hd : a.eval d = v) (hs : a.eval s = u) {v' : Value} {w' : World}
    (hr : (Builtin.copy_ #[t, t'] o.type #[v, u]).run P w = .ok v' w') (h : wpList P ops Q rest (a.put o.dst v') w') : wpList P ops Q (o :: rest) a w :=
  wpList_plain hgd fun _ hK => wp_copy_eq w d s t t' ho v u hd hs hr (hK _ _ h)
theorem step_copy_eq {ops : Array Oper} {o : Oper} {a : Act} {w : World} {K : Act → World → Prop} {Q : Exit → Act → World → Prop} {E : Prop}
    (hg : o.guard = none) (d x : Operand) (dT sT : TypeId) (hop : o.op = Op.call { callee := Callee.builtin Builtin.copy, args := #[d, x], argTypes := #[dT, sT] })
    (v u : Value) (hd : a.eval d = v) (hx : a.eval x = u) {v' : Value} {w' : World} (hr : (Builtin.copy_ #[dT, sT] o.type #[v, u]).run P w = .ok v' w') (hK : K (a.put o.dst v') w') :
    if Region.wanted o (yielded ops a.tmps) = true then Oper.wp P o a w K Q else E := by
  have hw : Region.wanted o (yielded ops a.tmps) = true := by simp [Region.wanted, hg]
  rw [if_pos hw]
  unfold Oper.wp
  simp [execOp, hop, resolve, invoke, builtin, hd, hx, hr, Result.andThen]
  exact hK
end

/-! ### one element put in between -/
section
variable {α : Type} {enc : α → List Value} {k : Nat}
theorem flat_take (hk : ∀ x, (enc x).length = k) : ∀ (l : List α) (i : Nat), (l.flatMap enc).take (i * k) = (l.take i).flatMap enc
  | [], i => by simp
  | x :: l, 0 => by simp
  | x :: l, i + 1 => by
    have e : (i + 1) * k = (enc x).length + i * k := by rw [hk, Nat.add_mul]; omega
    rw [List.flatMap_cons, e, List.take_length_add_append, flat_take hk l i]
    simp
theorem flat_drop (hk : ∀ x, (enc x).length = k) : ∀ (l : List α) (i : Nat), (l.flatMap enc).drop (i * k) = (l.drop i).flatMap enc
  | [], i => by simp
  | x :: l, 0 => by simp
  | x :: l, i + 1 => by
    have e : (i + 1) * k = (enc x).length + i * k := by rw [hk, Nat.add_mul]; omega
    rw [List.flatMap_cons, e, List.drop_length_add_append, flat_drop hk l i]
    simp
/-- cur holds l; the cells from i + 1 on take what lay from i on; then those of i take x. -/
theorem insert_cells (hk : ∀ x, (enc x).length = k) (cur : List Value) (l : List α) (i : Nat) (x : α) (hi : i ≤ l.length) (ht : cur.take (l.length * k) = l.flatMap enc) (hc : (l.length + 1) * k ≤ cur.length) (c1 c2 : List Value)
    (h1 : c1 = cur.take ((i + 1) * k) ++ (l.drop i).flatMap enc ++ cur.drop ((i + 1) * k + ((l.drop i).flatMap enc).length))
    (h2 : c2 = c1.take (i * k) ++ enc x ++ c1.drop (i * k + (enc x).length)) :
    c1.length = cur.length ∧ c2.length = cur.length ∧ c2.take ((l.length + 1) * k) = (l.take i ++ x :: l.drop i).flatMap enc := by
  have e0 : ((l.drop i).flatMap enc).length = (l.length - i) * k := by rw [flat_length hk, List.length_drop]
  have e1 : (i + 1) * k + (l.length - i) * k = (l.length + 1) * k := by rw [← Nat.add_mul]; congr 1; omega
  have e2 : (i + 1) * k = i * k + k := by rw [Nat.add_mul]; omega
  have e3 : l.length * k = i * k + (l.length - i) * k := by rw [← Nat.add_mul]; congr 1; omega
  have hle : i * k ≤ l.length * k := Nat.mul_le_mul_right k hi
  have e4 : (l.length + 1) * k = l.length * k + k := by rw [Nat.add_mul]; omega
  have L1 : c1.length = cur.length := by
    rw [h1]
    simp only [List.length_append, List.length_take, List.length_drop, e0]
    omega
  have hx := hk x
  have L2 : c2.length = cur.length := by
    rw [h2]
    simp only [List.length_append, List.length_take, List.length_drop, hx, L1]
    omega
  refine ⟨L1, L2, ?_⟩
  have hA : (cur.take ((i + 1) * k)).take (i * k) = (l.take i).flatMap enc := by
    rw [List.take_take, Nat.min_eq_left (by omega), ← flat_take hk, ← ht, List.take_take, Nat.min_eq_left hle]
  have hc1t : c1.take (i * k) = (l.take i).flatMap enc := by
    rw [h1, List.append_assoc, List.take_append_of_le_length (by rw [List.length_take]; omega), hA]
  have hc1d : c1.drop (i * k + k) = (l.drop i).flatMap enc ++ cur.drop ((i + 1) * k + ((l.drop i).flatMap enc).length) := by
    rw [h1, List.append_assoc, ← e2]
    have : (cur.take ((i + 1) * k)).length = (i + 1) * k := by rw [List.length_take]; omega
    exact List.drop_left' this
  rw [h2, hx, hc1t, hc1d]
  have hl : ((l.take i).flatMap enc ++ enc x ++ (l.drop i).flatMap enc).length = (l.length + 1) * k := by
    simp only [List.length_append, flat_length hk, List.length_take, List.length_drop, hx, Nat.min_eq_left hi]
    rw [e4, e3]; omega
  rw [← List.append_assoc, ← hl, List.take_left]
  simp
/-- R holds the first i of l; the cells of i take x; those from i + 1 on take what lay from i on. -/
theorem place_cells (hk : ∀ x, (enc x).length = k) (R : List Value) (l : List α) (i : Nat) (x : α) (hi : i ≤ l.length) (ht : R.take (i * k) = (l.take i).flatMap enc) (hc : (l.length + 1) * k ≤ R.length) (c1 c2 : List Value)
    (h1 : c1 = R.take (i * k) ++ enc x ++ R.drop (i * k + (enc x).length))
    (h2 : c2 = c1.take ((i + 1) * k) ++ (l.drop i).flatMap enc ++ c1.drop ((i + 1) * k + ((l.drop i).flatMap enc).length)) :
    c1.length = R.length ∧ c2.length = R.length ∧ c2.take ((l.length + 1) * k) = (l.take i ++ x :: l.drop i).flatMap enc := by
  have e0 : ((l.drop i).flatMap enc).length = (l.length - i) * k := by rw [flat_length hk, List.length_drop]
  have e1 : (i + 1) * k + (l.length - i) * k = (l.length + 1) * k := by rw [← Nat.add_mul]; congr 1; omega
  have e2 : (i + 1) * k = i * k + k := by rw [Nat.add_mul]; omega
  have hx := hk x
  have L1 : c1.length = R.length := by
    rw [h1]
    simp only [List.length_append, List.length_take, List.length_drop, hx]
    omega
  have L2 : c2.length = R.length := by
    rw [h2]
    simp only [List.length_append, List.length_take, List.length_drop, e0, L1]
    omega
  refine ⟨L1, L2, ?_⟩
  have hlt : ((l.take i).flatMap enc ++ enc x).length = (i + 1) * k := by
    rw [List.length_append, flat_length hk, List.length_take, hx, Nat.min_eq_left hi]; omega
  have hc1 : c1.take ((i + 1) * k) = (l.take i).flatMap enc ++ enc x := by
    rw [h1, ht, ← hlt, List.take_left]
  have hl : ((l.take i).flatMap enc ++ enc x ++ (l.drop i).flatMap enc).length = (l.length + 1) * k := by
    rw [List.length_append, hlt, e0]; omega
  rw [h2, hc1, ← hl, List.take_left]
  simp
end
end Go.Proofs.YthilbmdpbmkakaaDoor
