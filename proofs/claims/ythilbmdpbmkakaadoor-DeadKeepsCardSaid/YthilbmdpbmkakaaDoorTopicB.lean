/- Contracts: the reference's Has, Levels, sized and Valid; topic.sized and topic.Valid: all by the same words. -/
import Derived.Test.YthilbmdpbmkakaaDoorTopicA
import Derived.Test.YthilbmdpbmkakaaDoorSlice
set_option linter.unusedVariables false
set_option linter.unusedSimpArgs false
namespace Go.Proofs.YthilbmdpbmkakaaDoor
open Go Go.RowKit

set_option maxHeartbeats 400000 in
theorem ref_Has (s : ByteArray) (b : UInt8) (w : World) (hs : s.size ≤ maxLen) :
    Calls Tryd.prog 64 #[.string s, .int .u8 b.toNat] w fun e w' => e = .returned (.bool (isB b s.data.toList)) ∧ w = w' := by
  unfold maxLen at hs
  have HF : Hid (isB b s.data.toList = (s.data.toList.drop 0).any (· == b)) := Lib.hid rfl
  go_enter Tryd.func64, Tryd.ntmps64
  go_wp2
  go_loop [5] (fun i => ∃ k : Nat, k ≤ s.size ∧ i = .int .i64 k ∧ (s.data.toList.drop 0).any (· == b) = (s.data.toList.drop k).any (· == b)) (fun i => s.size - (intOf i).toNat)
  case atStart => exact ⟨0, by omega, rfl, rfl⟩
  case round =>
    obtain ⟨k, hk, rfl, hinv⟩ := hrel
    have HI := Lib.hid hinv; clear hinv
    by_cases hlt : k < s.size
    · have HR := Lib.hid (any_at (· == b) s k hlt)
      cases hb : (s[k] == b) with
      | true =>
        have hc : ((s[k].toNat : Int) == (b.toNat : Int)) = true := beq_iff_eq.2 ((byte_iff _ _).1 hb)
        have HB := Lib.hid hb; clear hb
        go_wp2
        go_ret
        exact ⟨ret_bool (by rw [HF.out, HI.out, HR.out, HB.out]; rfl), rfl⟩
      | false =>
        have hc : ((s[k].toNat : Int) == (b.toNat : Int)) = false := beq_eq_false_iff_ne.2 (fun h => Bool.false_ne_true (hb.symm.trans ((byte_iff _ _).2 h)))
        have HB := Lib.hid hb; clear hb
        go_wp2
        go_round
        case rel => exact ⟨k + 1, by omega, by go_num, by rw [HI.out, HR.out, HB.out]; rfl⟩
        case measure => simp [intOf]; omega
    · go_wp2
      go_ret
      exact ⟨ret_bool (by rw [HF.out, HI.out, List.drop_of_length_le (by simp only [size_data]; omega)]; rfl), rfl⟩

/-! ### Levels -/
theorem extract_list (s : ByteArray) (a b : Nat) : (s.extract a b).data.toList = (s.data.toList.drop a).take (b - a) := by
  rw [ByteArray.data_extract, Array.toList_extract, List.extract_eq_take_drop]
theorem levelsL_split : ∀ (m r : List UInt8), (47 : UInt8) ∉ m → levelsL (m ++ 47 :: r) = m :: levelsL r
  | [], r, _ => by simp [levelsL]
  | c :: m, r, h => by
    have hc : (c == 47) = false := by simp at h; simpa using fun e => h.1 e.symm
    have hm : (47 : UInt8) ∉ m := fun x => h (List.mem_cons_of_mem _ x)
    simp only [List.cons_append, levelsL, hc, levelsL_split m r hm]
    rfl
theorem levelsL_one : ∀ (m : List UInt8), (47 : UInt8) ∉ m → levelsL m = [m]
  | [], _ => rfl
  | c :: m, h => by
    have hc : (c == 47) = false := by simp at h; simpa using fun e => h.1 e.symm
    have hm : (47 : UInt8) ∉ m := fun x => h (List.mem_cons_of_mem _ x)
    simp only [levelsL, hc, levelsL_one m hm]
    rfl
/-- The levels so far, and the rest. -/
def LevInv (s : ByteArray) (xs : List ByteArray) (f i : Nat) : Prop :=
  f ≤ i ∧ i ≤ s.size ∧ xs.length ≤ f ∧ levelsL s.data.toList = xs.map (·.data.toList) ++ levelsL (s.data.toList.drop f) ∧ (47 : UInt8) ∉ (s.data.toList.drop f).take (i - f)
theorem LevInv.start (s : ByteArray) : LevInv s [] 0 0 := ⟨by omega, by omega, by simp, by simp, by simp⟩
theorem LevInv.pass {s : ByteArray} {xs : List ByteArray} {f i : Nat} (h : LevInv s xs f i) (hi : i < s.size) (hc : (s[i] == 47) = false) : LevInv s xs f (i + 1) := by
  obtain ⟨h1, h2, h3, h4, h5⟩ := h
  refine ⟨by omega, by omega, h3, h4, ?_⟩
  have e : i + 1 - f = (i - f) + 1 := by omega
  rw [e, List.take_succ_eq_append_getElem (by simp only [List.length_drop, size_data]; omega), List.mem_append, List.mem_singleton]
  rintro (h | h)
  · exact h5 h
  · have h6 : (s.data.toList.drop f)[i - f]'(by simp only [List.length_drop, size_data]; omega) = s[i] := by
      rw [List.getElem_drop]
      have : f + (i - f) = i := by omega
      simp only [this]
      rfl
    rw [h6] at h
    rw [← h] at hc
    exact absurd hc (by decide)
theorem LevInv.cut {s : ByteArray} {xs : List ByteArray} {f i : Nat} (h : LevInv s xs f i) (hi : i < s.size) (hc : (s[i] == 47) = true) : LevInv s (xs ++ [s.extract f i]) (i + 1) (i + 1) := by
  obtain ⟨h1, h2, h3, h4, h5⟩ := h
  have hc' : s[i] = 47 := by simpa using hc
  refine ⟨by omega, by omega, by simp; omega, ?_, by simp⟩
  have e1 : s.data.toList.drop f = (s.data.toList.drop f).take (i - f) ++ 47 :: s.data.toList.drop (i + 1) := by
    have e2 : (s.data.toList.drop f).drop (i - f) = s[i] :: s.data.toList.drop (i + 1) := by
      rw [List.drop_drop, show f + (i - f) = i by omega]
      exact drop_at s i hi
    rw [hc'] at e2
    rw [← e2, List.take_append_drop]
  have e3 : (s.extract f i).data.toList = (s.data.toList.drop f).take (i - f) := extract_list s f i
  rw [h4, List.map_append, List.append_assoc]
  congr 1
  conv => lhs; rw [e1]
  rw [levelsL_split _ _ h5]
  simp only [List.map_cons, List.map_nil, List.singleton_append, e3]
theorem LevInv.done {s : ByteArray} {xs : List ByteArray} {f i : Nat} (h : LevInv s xs f i) (hi : ¬ i < s.size) : (xs ++ [s.extract f s.size]).map (·.data.toList) = levelsL s.data.toList := by
  obtain ⟨h1, h2, h3, h4, h5⟩ := h
  have e : i = s.size := by omega
  subst e
  rw [List.take_of_length_le (by simp)] at h5
  have e3 : (s.extract f s.size).data.toList = s.data.toList.drop f := by
    rw [extract_list, List.take_of_length_le (by simp)]
  rw [h4, levelsL_one _ h5, List.map_append]
  simp only [List.map_cons, List.map_nil, e3]
theorem Tryd.infoS : (Tryd.prog.info? 9).map (fun i => (i.zero, i.size, i.bytes)) = some (some (.string ByteArray.empty), 1, 16) := by kernel_rfl

set_option maxHeartbeats 800000 in
theorem ref_Levels (s : ByteArray) (w : World) (hs : s.size ≤ 4096) :
    Calls Tryd.prog 83 #[.string s] w fun e w' => ∃ v xs, e = .returned v ∧ Own encS 1 9 w.heap.size w' v xs ∧ xs.map (·.data.toList) = levelsL s.data.toList ∧ Ext w w' := by
  obtain ⟨B, hB⟩ : ∃ B, B = w.heap.size := ⟨_, rfl⟩
  have HBE := Lib.hid hB
  go_enter Tryd.func83, Tryd.ntmps83
  go_wp2
  go_loopw [3, 4, 5] (fun v f i wr => ∃ (xs : List ByteArray) (ff k : Nat), f = .int .i64 ff ∧ i = .int .i64 k ∧ LevInv s xs ff k ∧ Own encS 1 9 B wr v xs ∧ Below B w wr ∧ B ≤ wr.heap.size) (fun _ _ i _ => s.size - (intOf i).toNat)
  case atStart => exact ⟨[], 0, 0, rfl, rfl, LevInv.start s, Own.nil _ _ _ _ _, Below.refl _ _, by omega⟩
  case round =>
    obtain ⟨xs, ff, k, rfl, rfl, hI, HO, HB, hsz⟩ := hrel
    have HI := Lib.hid hI
    have hx := hI.2.2.1
    have h1 := hI.1
    have h2 := hI.2.1
    clear hI hB
    by_cases hlt : k < s.size
    · cases hb : (s[k] == 47) with
      | true =>
        have hc : ((s[k].toNat : Int) == 47) = true := beq_iff_eq.2 ((byte_iff _ _).1 hb)
        have HN := Lib.hid (HI.out.cut hlt hb)
        have hl : (xs.length + 1) * 16 ≤ 140737488355328 := by omega
        clear hb
        go_wp2_with (first | (at_builtin; refine wp_append1 encS (w0 := w) B (by rfl) _ _ 49 9 (.string ByteArray.empty) 1 16 (by rfl) Tryd.underlying49 Tryd.infoS rfl (by decide) (by decide) encS_len encS_one _ xs (s.extract ff k) (by rfl) (by rfl) HO HB hsz hl ?_; intro v1 w1 HO1 HB1 hg1 _))
        have hs1 := HB1.size
        go_roundw
        case rel => exact ⟨xs ++ [s.extract ff k], k + 1, k + 1, by go_num, by go_num, HN.out, HO1, HB1, by have := hg1.size; omega⟩
        case measure => simp [intOf]; omega
      | false =>
        have hc : ((s[k].toNat : Int) == 47) = false := beq_eq_false_iff_ne.2 (fun h => Bool.false_ne_true (hb.symm.trans ((byte_iff _ _).2 h)))
        have HN := Lib.hid (HI.out.pass hlt hb)
        clear hb
        go_wp2
        go_roundw
        case rel => exact ⟨xs, ff, k + 1, rfl, by go_num, HN.out, HO, HB, hsz⟩
        case measure => simp [intOf]; omega
    · have HN := Lib.hid (HI.out.done hlt)
      have hl : (xs.length + 1) * 16 ≤ 140737488355328 := by omega
      go_wp2_with (first | (at_builtin; refine wp_append1 encS (w0 := w) B (by rfl) _ _ 49 9 (.string ByteArray.empty) 1 16 (by rfl) Tryd.underlying49 Tryd.infoS rfl (by decide) (by decide) encS_len encS_one _ xs (s.extract ff s.size) (by rfl) (by rfl) HO HB hsz hl ?_; intro v1 w1 HO1 HB1 hg1 _))
      go_ret
      exact ⟨v1, xs ++ [s.extract ff s.size], rfl, by rw [← HBE.out]; exact HO1, HN.out, by rw [HBE.out] at HB1; exact HB1⟩
end Go.Proofs.YthilbmdpbmkakaaDoor
