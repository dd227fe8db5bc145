/- slices.Insert of one element at properties: in a row of the call's own. -/
import Derived.Test.YthilbmdpbmkakaaDoorRowK
import Derived.Test.YthilbmdpbmkakaaDoorTopicB
set_option linter.unusedVariables false
set_option linter.unusedSimpArgs false
namespace Go.Proofs.YthilbmdpbmkakaaDoor
open Go Go.RowKit

theorem Tryd.infoPr : (Tryd.prog.info? 35).map (fun i => (i.zero, i.size, i.bytes)) = some (some (.agg #[.string ByteArray.empty, .string ByteArray.empty]), 2, 32) := by kernel_rfl
set_option maxRecDepth 100000 in
set_option maxHeartbeats 4000000 in
theorem insertP_room (base : Nat) (w : World) (g cap n : Nat) (cur : Array Value) (l : List Pr) (i : Nat) (x : Pr) (B0 : Nat) (hn : l.length = n) (hi : i < n)
    (hbase : base ≤ g) (hg : w.heap[g]? = some (.cells cur 35 (0, 0))) (hroom : n + 1 ≤ cap) (hcm : cap ≤ maxLen) (hcs : cur.size = cap * 2) (ht : cur.toList.take (n * 2) = l.flatMap encP)
    (hx : w.heap[B0]? = some (.cells #[.string x.1, .string x.2] 35 (0, 0))) (hne : B0 ≠ g) :
    Calls Tryd.prog 57 #[.slice (some ⟨g, 0, none⟩) n cap, .int .i64 i, .slice (some ⟨B0, 0, none⟩) 1 1] w fun e w' =>
      e = .returned (.slice (some ⟨g, 0, none⟩) (n + 1) cap) ∧ Own encP 2 35 base w' (.slice (some ⟨g, 0, none⟩) (n + 1) cap) (l.take i ++ x :: l.drop i) ∧ w.grownBy w' (some g) := by
  have hov : ∀ off lb cb, (callFunc 70 #[.slice (some ⟨B0, 0, none⟩) 1 1, .slice (some ⟨g, off, none⟩) lb cb]).run Tryd.prog w = .ok (.value (.bool false)) w := fun off lb cb => by
    rw [run_callFunc_extern Tryd.func70 (by kernel_rfl) (by kernel_rfl) (by kernel_rfl) (e := Extern.SlicesOverlaps.overlaps #[24, 24] #[4]) (by kernel_rfl),
      Lib.run_overlaps_apart w 24 4 35 Tryd.underlying24 2 Tryd.sizeOf35 ⟨B0, 0, none⟩ ⟨g, off, none⟩ 1 1 lb cb hne 35 35 2 cur.size (by simp [World.shape?, hx]) (by simp [World.shape?, hg]) (by omega) (by simp [World.frozen?, hx]) (by simp [World.frozen?, hx])]
    rfl
  have hsz : (Tryd.prog.info? 35).map (·.size) = some 2 := by kernel_rfl
  obtain ⟨F, hF⟩ : ∃ F, F = (l.drop i).flatMap encP := ⟨_, rfl⟩
  have hFl : F.length = (n - i) * 2 := by rw [hF, flat_length encP_len, List.length_drop, hn]
  have hF1 : ∀ v ∈ F, v.oneCell' = true := fun v hv => by
    rw [hF] at hv
    obtain ⟨y, _, hy⟩ := List.mem_flatMap.1 hv
    exact encP_one y v hy
  obtain ⟨A1, hA1⟩ : ∃ A1 : Array Value, A1 = (cur.toList.take ((i + 1) * 2) ++ F ++ cur.toList.drop ((i + 1) * 2 + F.length)).toArray := ⟨_, rfl⟩
  obtain ⟨A2, hA2⟩ : ∃ A2 : Array Value, A2 = (A1.toList.take (i * 2) ++ encP x ++ A1.toList.drop (i * 2 + (encP x).length)).toArray := ⟨_, rfl⟩
  obtain ⟨e1, e2, e3⟩ := insert_cells (enc := encP) (k := 2) encP_len cur.toList l i x (by omega) (by rw [hn]; exact ht) (by rw [hn, Array.length_toList, hcs]; exact Nat.mul_le_mul_right 2 hroom) A1.toList A2.toList (by rw [hA1, hF]) (by rw [hA2])
  simp only [Array.length_toList] at e1 e2
  rw [hn] at e3
  have hcp1 : ∀ ty dl dc sl sc, dl = n - i → n - i ≤ sl → (Builtin.copy_ #[24, 24] ty #[.slice (some ⟨g, (i + 1) * 2, none⟩) dl dc, .slice (some ⟨g, i * 2, none⟩) sl sc]).run Tryd.prog w.drew = .ok (goInt ((n - i : Nat) : Int)) (w.drew.setRow g A1) := fun ty dl dc sl sc h1 h2 => by
    rw [hA1]
    refine run_copy_rowK w.drew _ _ ty 35 2 g ((i + 1) * 2) dl dc ⟨g, i * 2, none⟩ sl sc (n - i) cur 35 F Tryd.underlying24 hsz hg (by simp only [Nat.min_def]; split <;> omega) hFl (fun j v hj => ?_) ?_ hF1
    · rw [Addr.add_lit]
      have hlt : j < F.length := (List.getElem?_eq_some_iff.1 hj).1
      have h3 : (l.flatMap encP)[i * 2 + j]? = some v := by
        rw [hF, ← flat_drop (enc := encP) (k := 2) encP_len l i, List.getElem?_drop] at hj
        exact hj
      rw [← ht, List.getElem?_take] at h3
      split at h3
      · rw [cell_of_row w.drew g (i * 2 + j) cur 35 (0, 0) hg, ← Array.getElem?_toList]; exact h3
      · cases h3
    · rw [hFl, hcs]
      have : (i + 1) * 2 + (n - i) * 2 = (n + 1) * 2 := by omega
      rw [this]
      exact Nat.mul_le_mul_right 2 hroom
  obtain ⟨W1, hW1⟩ : ∃ W1, W1 = w.drew.setRow g A1 := ⟨_, rfl⟩
  have hg1 : W1.heap[g]? = some (.cells A1 35 (0, 0)) := by rw [hW1]; exact setRow_heap w.drew g cur A1 35 (0, 0) hg
  have hx1 : W1.heap[B0]? = some (.cells #[.string x.1, .string x.2] 35 (0, 0)) := by rw [hW1]; exact (setRow_other w.drew g B0 A1 (fun h => hne h)).trans hx
  have hB1 : w.grownBy W1 (some g) := by rw [hW1]; exact grown_setRow (grown_drew (grown_refl w _)) _
  rw [← hW1] at hcp1
  have hcp2 : ∀ (W : World), W.heap = W1.heap → ∀ ty dl dc, 1 ≤ dl → (Builtin.copy_ #[24, 24] ty #[.slice (some ⟨g, i * 2, none⟩) dl dc, .slice (some ⟨B0, 0, none⟩) 1 1]).run Tryd.prog W = .ok (goInt 1) (W.setRow g A2) := fun W hW ty dl dc h1 => by
    rw [hA2]
    refine run_copy_rowK W _ _ ty 35 2 g (i * 2) dl dc ⟨B0, 0, none⟩ 1 1 1 A1 35 (encP x) Tryd.underlying24 hsz (by rw [hW]; exact hg1) (by simp only [Nat.min_def]; split <;> omega) rfl (fun j v hj => ?_) ?_ (encP_one x)
    · rw [Addr.add_lit, Nat.zero_add, cell_of_row W B0 j _ 35 (0, 0) (by rw [hW]; exact hx1)]
      simpa [encP] using hj
    · rw [e1, hcs]
      have : i * 2 + (encP x).length = (i + 1) * 2 := by simp [encP]; omega
      rw [this]
      exact Nat.mul_le_mul_right 2 (by omega)
  have fin : ∀ W, W.heap = W1.heap → w.grownBy W (some g) → Own encP 2 35 base (W.setRow g A2) (.slice (some ⟨g, 0, none⟩) (n + 1) cap) (l.take i ++ x :: l.drop i) ∧ w.grownBy (W.setRow g A2) (some g) := fun W hW hB => by
    have hlen : (l.take i ++ x :: l.drop i).length = n + 1 := by simp; omega
    refine ⟨⟨flat_length encP_len _, .inr ⟨g, cap, A2, by rw [hlen], hbase, setRow_heap W g A1 A2 35 (0, 0) (by rw [hW]; exact hg1), by rw [hlen]; exact hroom, hcm, by rw [e2, hcs], by rw [hlen]; exact e3⟩⟩, grown_setRow hB _⟩
  have FIN := Lib.hid fin
  have HB1 := Lib.hid hB1
  have HW1 := Lib.hid hW1
  clear fin hB1 hg1 hx1 e1 e2 e3 hA1 hA2 hF hFl hF1 hg ht hcs hx hW1 hn hsz
  unfold maxLen at hcm
  have hw1 : IntKind.i64.wrap ((i : Int) + 1) = (i : Int) + 1 := by rw [IntKind.wrap_i64]; omega
  have hb1 : (0 : Int) ≤ (i : Int) + 1 := by omega
  have htn : ((i : Int) + 1).toNat = i + 1 := by omega
  have hb2 : ¬ (cap = i + 1) ∨ cap = i + 1 := by omega
  have hb3 : (i : Int) ≤ (n : Int) + 1 := by omega
  have hb4 : ¬ (cap = i) := by omega
  have hin : i ≤ n := by omega
  have hb5 : ¬ (cap = i + 1) := by omega
  clear hb2
  go_enter Tryd.func57, Tryd.ntmps57
  go_wp2_with (simp only [hov])
  go_region_law (refine step_copy_eq rfl _ _ 24 24 rfl _ _ (by simp [Act.eval, Act.put]) (by simp [Act.eval, Act.put]) (hcp1 _ (n - i) (cap - (i + 1)) (n + 1 - i) (cap - i) rfl (by omega)) ?_)
  go_wp2_with (refine wpList_copy_eq _ rfl _ _ 24 24 rfl _ _ rfl rfl (hcp2 _ rfl _ (n + 1 - i) (cap - i) (by omega)) ?_)
  go_ret
  exact ⟨rfl, FIN.out _ rfl HB1.out⟩

set_option maxRecDepth 100000 in
set_option maxHeartbeats 4000000 in
theorem insertP_grow (base : Nat) (w : World) (g cap n : Nat) (cur : Array Value) (l : List Pr) (i : Nat) (x : Pr) (B0 : Nat) (hn : l.length = n) (hi : i < n)
    (hbase : base ≤ w.heap.size) (hg : w.heap[g]? = some (.cells cur 35 (0, 0))) (hnc : n ≤ cap) (hroom : cap < n + 1) (hbig : (n + 1) * 32 ≤ 140737488355328) (ht : cur.toList.take (n * 2) = l.flatMap encP)
    (hx : w.heap[B0]? = some (.cells #[.string x.1, .string x.2] 35 (0, 0))) :
    Calls Tryd.prog 57 #[.slice (some ⟨g, 0, none⟩) n cap, .int .i64 i, .slice (some ⟨B0, 0, none⟩) 1 1] w fun e w' =>
      ∃ G, e = .returned (.slice (some ⟨w.heap.size, 0, none⟩) (n + 1) G) ∧ Own encP 2 35 base w' (.slice (some ⟨w.heap.size, 0, none⟩) (n + 1) G) (l.take i ++ x :: l.drop i) ∧ w.grownBy w' (some g) := by
  have hsz : (Tryd.prog.info? 35).map (·.size) = some 2 := by kernel_rfl
  obtain ⟨i0, hi0, hz0, hzs, hzb⟩ := info_parts Tryd.infoPr
  have hgw : g < w.heap.size := (Array.getElem?_eq_some_iff.1 hg).1
  have hBw : B0 < w.heap.size := (Array.getElem?_eq_some_iff.1 hx).1
  obtain ⟨F, hF⟩ : ∃ F, F = (l.drop i).flatMap encP := ⟨_, rfl⟩
  have hFl : F.length = (n - i) * 2 := by rw [hF, flat_length encP_len, List.length_drop, hn]
  have hF1 : ∀ v ∈ F, v.oneCell' = true := fun v hv => by
    rw [hF] at hv
    obtain ⟨y, _, hy⟩ := List.mem_flatMap.1 hv
    exact encP_one y v hy
  have hFc : ∀ j v, F[j]? = some v → w.cell? ⟨g, i * 2 + j, none⟩ = some v := fun j v hj => by
    have h3 : (l.flatMap encP)[i * 2 + j]? = some v := by
      rw [hF, ← flat_drop (enc := encP) (k := 2) encP_len l i, List.getElem?_drop] at hj
      exact hj
    rw [← ht, List.getElem?_take] at h3
    split at h3
    · rw [cell_of_row w g (i * 2 + j) cur 35 (0, 0) hg, ← Array.getElem?_toList]; exact h3
    · cases h3
  have hkk : (n : Int) + 1 - (i : Int) = ((n + 1 - i : Nat) : Int) := by omega
  have hik : i + (n + 1 - i) = n + 1 := by omega
  have hTl : ((l.take i).flatMap encP).length = i * 2 := by rw [flat_length encP_len, List.length_take, hn]; omega
  have hold : (Builtin.firstCells i0.size i (.slice (some ⟨g, 0, none⟩) i cap)).run Tryd.prog w.drew = .ok ((l.take i).flatMap encP).toArray w.drew := by
    rw [hzs]
    refine run_firstCells_some w.drew 2 i ⟨g, 0, none⟩ i cap _ hTl (fun j v hj => ?_)
    rw [← flat_take (enc := encP) (k := 2) encP_len l i, List.getElem?_take] at hj
    split at hj
    · rw [← ht, List.getElem?_take] at hj
      split at hj
      · rw [Addr.add_lit, Nat.zero_add, cell_of_row w.drew g j cur 35 (0, 0) hg, ← Array.getElem?_toList]; exact hj
      · cases hj
    · cases hj
  have hbig2 : (n + 1) * i0.bytes ≤ 140737488355328 := by rw [hzb]; exact hbig
  have hrz : ∀ ty, (Builtin.append_ #[24, 3] ty #[.slice (some ⟨g, 0, none⟩) i cap, .int .i64 ((n : Int) + 1 - (i : Int))]).run Tryd.prog w =
      .ok (.slice (some ⟨w.heap.size, 0, none⟩) (n + 1) (grownCap w (n + 1) cap 35)) (w.drew.alloc (.cells (((l.take i).flatMap encP).toArray ++ Builtin.zeroCells (Value.agg #[.string ByteArray.empty, .string ByteArray.empty]).cells (n + 1 - i) ++ Builtin.zeroCells (Value.agg #[.string ByteArray.empty, .string ByteArray.empty]).cells (grownCap w (n + 1) cap 35 - (n + 1))) 35)) := fun ty => by
    have h := Lib.run_append_grow_zeros w 24 3 ty 35 i0 _ .i64 .i64 Tryd.underlying24 Tryd.underlying3 hi0 hz0 (some ⟨g, 0, none⟩) i cap _ hold (n + 1 - i) (by omega) (by omega) (by omega) (by omega) (by
        have : (n + 1 - i) * i0.bytes ≤ (n + 1) * i0.bytes := Nat.mul_le_mul_right _ (by omega)
        omega) (by rw [hik]; exact growslice_fits hroom hbig2)
    rw [hik] at h
    rw [hkk]
    exact h
  obtain ⟨G, hG⟩ : ∃ G, G = grownCap w (n + 1) cap 35 := ⟨_, rfl⟩
  have hGn : n + 1 ≤ G := by rw [hG]; exact grownCap_ge w _ _ _
  have hGm : G ≤ maxLen := by rw [hG]; exact grownCap_le_maxLen w (n + 1) cap 35 (by unfold maxLen; omega)
  obtain ⟨ROW, hROW⟩ : ∃ ROW : Array Value, ROW = ((l.take i).flatMap encP).toArray ++ Builtin.zeroCells (Value.agg #[.string ByteArray.empty, .string ByteArray.empty]).cells (n + 1 - i) ++ Builtin.zeroCells (Value.agg #[.string ByteArray.empty, .string ByteArray.empty]).cells (G - (n + 1)) := ⟨_, rfl⟩
  rw [← hG] at hrz
  rw [← hROW] at hrz
  have hRs : ROW.size = G * 2 := by
    rw [hROW]
    simp only [Array.size_append, List.size_toArray, hTl, size_zeroCells, Value.cells]
    simp
    omega
  have hRt : ROW.toList.take (i * 2) = (l.take i).flatMap encP := by
    rw [hROW, Array.toList_append, Array.toList_append, List.append_assoc]
    simp only
    rw [← hTl, List.take_left]
  obtain ⟨A1, hA1⟩ : ∃ A1 : Array Value, A1 = (ROW.toList.take (i * 2) ++ encP x ++ ROW.toList.drop (i * 2 + (encP x).length)).toArray := ⟨_, rfl⟩
  obtain ⟨A2, hA2⟩ : ∃ A2 : Array Value, A2 = (A1.toList.take ((i + 1) * 2) ++ F ++ A1.toList.drop ((i + 1) * 2 + F.length)).toArray := ⟨_, rfl⟩
  obtain ⟨e1, e2, e3⟩ := place_cells (enc := encP) (k := 2) encP_len ROW.toList l i x (by omega) hRt (by rw [hn, Array.length_toList, hRs]; exact Nat.mul_le_mul_right 2 hGn) A1.toList A2.toList (by rw [hA1]) (by rw [hA2, hF])
  simp only [Array.length_toList] at e1 e2
  rw [hn] at e3
  obtain ⟨W1, hW1⟩ : ∃ W1, W1 = w.drew.alloc (.cells ROW 35) := ⟨_, rfl⟩
  rw [← hW1] at hrz
  have hg1 : W1.heap[w.heap.size]? = some (.cells ROW 35 (0, 0)) := by rw [hW1]; exact heap_alloc_new w.drew _
  have hx1 : W1.heap[B0]? = some (.cells #[.string x.1, .string x.2] 35 (0, 0)) := by rw [hW1]; exact (heap_alloc_old w.drew _ hBw).trans hx
  have hF1c : ∀ j v, F[j]? = some v → W1.cell? ⟨g, i * 2 + j, none⟩ = some v := fun j v hj => by
    rw [hW1]; exact (World.cell?_alloc_past (w := w.drew) _ g _ hgw).trans (hFc j v hj)
  have hB1 : w.grownBy W1 (some g) := by rw [hW1]; exact (grown_drew (grown_refl w _)).trans (World.grownBy_alloc _ _ _)
  have hcp1 : ∀ (W : World), W.heap = W1.heap → ∀ ty dl dc, 1 ≤ dl → (Builtin.copy_ #[24, 24] ty #[.slice (some ⟨w.heap.size, i * 2, none⟩) dl dc, .slice (some ⟨B0, 0, none⟩) 1 1]).run Tryd.prog W = .ok (goInt 1) (W.setRow w.heap.size A1) := fun W hW ty dl dc h1 => by
    rw [hA1]
    refine run_copy_rowK W _ _ ty 35 2 w.heap.size (i * 2) dl dc ⟨B0, 0, none⟩ 1 1 1 ROW 35 (encP x) Tryd.underlying24 hsz (by rw [hW]; exact hg1) (by simp only [Nat.min_def]; split <;> omega) rfl (fun j v hj => ?_) ?_ (encP_one x)
    · rw [Addr.add_lit, Nat.zero_add, cell_of_row W B0 j _ 35 (0, 0) (by rw [hW]; exact hx1)]
      simpa [encP] using hj
    · rw [hRs]
      have : i * 2 + (encP x).length = (i + 1) * 2 := by simp [encP]; omega
      rw [this]
      exact Nat.mul_le_mul_right 2 (by omega)
  have hcp2 : ∀ (W : World), W.heap = W1.heap → ∀ (V : World), V.heap = (W.setRow w.heap.size A1).heap → ∀ ty dl dc sl sc, dl = n - i → n - i ≤ sl → (Builtin.copy_ #[24, 24] ty #[.slice (some ⟨w.heap.size, (i + 1) * 2, none⟩) dl dc, .slice (some ⟨g, i * 2, none⟩) sl sc]).run Tryd.prog V = .ok (goInt ((n - i : Nat) : Int)) (V.setRow w.heap.size A2) := fun W hW V hV ty dl dc sl sc h1 h2 => by
    rw [hA2]
    refine run_copy_rowK V _ _ ty 35 2 w.heap.size ((i + 1) * 2) dl dc ⟨g, i * 2, none⟩ sl sc (n - i) A1 35 F Tryd.underlying24 hsz (by rw [hV]; exact setRow_heap W _ ROW A1 35 (0, 0) (by rw [hW]; exact hg1)) (by simp only [Nat.min_def]; split <;> omega) hFl (fun j v hj => ?_) ?_ hF1
    · have h3 : V.heap[g]? = W1.heap[g]? := by rw [hV, setRow_other W _ g A1 (by omega), hW]
      rw [Addr.add_lit, World.cell?_of_block (w := W1) (w' := V) (a := ⟨g, i * 2 + j, none⟩) h3]
      exact hF1c j v hj
    · rw [hFl, e1, hRs]
      have : (i + 1) * 2 + (n - i) * 2 = (n + 1) * 2 := by omega
      rw [this]
      exact Nat.mul_le_mul_right 2 hGn
  have fin : ∀ W, W.heap = W1.heap → w.grownBy W (some g) → ∀ V, V.heap = (W.setRow w.heap.size A1).heap → (w.grownBy (W.setRow w.heap.size A1) (some g) → w.grownBy V (some g)) → Own encP 2 35 base (V.setRow w.heap.size A2) (.slice (some ⟨w.heap.size, 0, none⟩) (n + 1) G) (l.take i ++ x :: l.drop i) ∧ w.grownBy (V.setRow w.heap.size A2) (some g) := fun W hW hB V hV hBV => by
    have hlen : (l.take i ++ x :: l.drop i).length = n + 1 := by simp; omega
    refine ⟨⟨flat_length encP_len _, .inr ⟨w.heap.size, G, A2, by rw [hlen], hbase, setRow_heap V _ A1 A2 35 (0, 0) (by rw [hV]; exact setRow_heap W _ ROW A1 35 (0, 0) (by rw [hW]; exact hg1)), by rw [hlen]; exact hGn, hGm, by rw [e2, hRs], by rw [hlen]; exact e3⟩⟩, grown_setNew (hBV (grown_setNew hB (Nat.le_refl _) _)) (Nat.le_refl _) _⟩
  have FIN := Lib.hid fin
  have HB1 := Lib.hid hB1
  unfold maxLen at hGm
  have HW1 := Lib.hid hW1
  have hgg : g ≠ w.heap.size := by omega
  clear fin hB1 hg1 hx1 e1 e2 e3 hA1 hA2 hF hFl hF1 hg ht hx hW1 hn hsz hROW hRs hRt hG hi0 hz0 hzs hzb hbig2 hold hTl hik hFc hF1c hkk
  have hw1 : IntKind.i64.wrap ((i : Int) + 1) = (i : Int) + 1 := by rw [IntKind.wrap_i64]; omega
  have hb1 : (0 : Int) ≤ (i : Int) + 1 := by omega
  have htn : ((i : Int) + 1).toNat = i + 1 := by omega
  have hb3 : (i : Int) ≤ (n : Int) + 1 := by omega
  have hb4 : ¬ (cap = i) := by omega
  have hin : i ≤ n := by omega
  have hGi : ¬ (G = i) := by omega
  have hGi1 : ¬ (G = i + 1) := by omega
  go_enter Tryd.func57, Tryd.ntmps57
  go_wp2_with (first
    | (at_builtin; refine Lib.wpList_append_run _ rfl _ _ _ _ rfl _ _ rfl rfl _ _ (hrz _) ?_)
    | (refine wpList_copy_eq _ rfl _ _ 24 24 rfl _ _ rfl rfl (hcp1 _ rfl _ (n + 1 - i) (G - i) (by omega)) ?_))
  go_region_law (refine step_copy_eq rfl _ _ 24 24 rfl _ _ (by simp [Act.eval, Act.put]) (by simp [Act.eval, Act.put]) (hcp2 W1 rfl (W1.setRow w.heap.size A1).drew rfl _ (n - i) (G - (i + 1)) (n - i) (cap - i) rfl (Nat.le_refl _)) ?_)
  go_wp2
  go_ret
  exact ⟨_, rfl, FIN.out _ rfl HB1.out _ rfl (fun h => grown_drew h)⟩

set_option maxRecDepth 100000 in
set_option maxHeartbeats 4000000 in
theorem insertP_end (base : Nat) (w : World) (A : Option Addr) (cap n : Nat) (l : List Pr) (x : Pr) (B0 : Nat) (hn : l.length = n) (hnc : n ≤ cap) (hcm : cap ≤ maxLen) (HO : Own encP 2 35 base w (.slice A n cap) l) (hA : ∀ a, A = some a → a.spot = none)
    (hA0 : A = none → n = 0 ∧ cap = 0)
    (hbase : base ≤ w.heap.size) (hbig : (n + 1) * 32 ≤ 140737488355328) (hx : w.heap[B0]? = some (.cells #[.string x.1, .string x.2] 35 (0, 0))) :
    Calls Tryd.prog 57 #[.slice A n cap, .int .i64 n, .slice (some ⟨B0, 0, none⟩) 1 1] w fun e w' =>
      ∃ v, e = .returned v ∧ Own encP 2 35 base w' v (l ++ [x]) ∧ w.grownBy w' (Value.slice A n cap).ownBlock ∧ (v.ownBlock = (Value.slice A n cap).ownBlock ∨ ∃ b, v.ownBlock = some b ∧ w.heap.size ≤ b) := by
  unfold maxLen at hcm
  have HO := Lib.hid HO
  have HBB : Hid (Below base w w) := Lib.hid (Below.refl _ _)
  have hy : Hid (∀ j (h : j < [x].length) i u, (encP [x][j])[i]? = some u → w.cell? ⟨B0, 0 + j * 2 + i, none⟩ = some u) := Lib.hid fun j hj i u hu => by
    have : j = 0 := by simpa using hj
    subst this
    rw [cell_of_row w B0 _ _ 35 (0, 0) hx]
    simpa [encP] using hu
  clear hx
  cases A with
  | none =>
    obtain ⟨rfl, rfl⟩ := hA0 rfl
    clear hA0 hA
    have HN := Lib.hid hn
    clear hn
    go_enter Tryd.func57, Tryd.ntmps57
    go_wp2_with (at_builtin; refine wp_appendN encP (w0 := w) base (by rfl) _ _ 24 35 (.agg #[.string ByteArray.empty, .string ByteArray.empty]) 2 32 (by rfl) Tryd.underlying24 Tryd.infoPr rfl (by decide) (by decide) encP_len encP_one _ l [x] B0 0 1 (by rfl) (by rfl) hy.out HO.out (HBB.out) hbase (by simp [HN.out]) ?_; intro v1 w1 HO1 HB1 hg1 hw)
    go_ret
    exact ⟨_, rfl, HO1, by first | exact hg1 | (rw [← hcn]; exact hg1) | (rw [hcn] at hg1; exact hg1), by first | exact hw | (rw [← hcn]; exact hw) | (rw [hcn] at hw; exact hw)⟩
  | some a =>
    obtain ⟨ab, ao, asp⟩ := a
    obtain rfl : asp = none := hA _ rfl
    clear hA0 hA
    have HN := Lib.hid hn
    clear hn
    by_cases hcn : cap = n
    · go_enter Tryd.func57, Tryd.ntmps57
      go_wp2_with (at_builtin; refine wp_appendN encP (w0 := w) base (by rfl) _ _ 24 35 (.agg #[.string ByteArray.empty, .string ByteArray.empty]) 2 32 (by rfl) Tryd.underlying24 Tryd.infoPr rfl (by decide) (by decide) encP_len encP_one _ l [x] B0 0 1 (by rfl) (by rfl) hy.out (by first | exact HO.out | (rw [← hcn]; exact HO.out) | (rw [hcn] at HO; exact HO.out)) HBB.out hbase (by simpa [HN.out] using hbig) ?_; intro v1 w1 HO1 HB1 hg1 hw)
      all_goals (go_ret; exact ⟨_, rfl, HO1, by first | exact hg1 | (rw [← hcn]; exact hg1) | (rw [hcn] at hg1; exact hg1), by first | exact hw | (rw [← hcn]; exact hw) | (rw [hcn] at hw; exact hw)⟩)
    · go_enter Tryd.func57, Tryd.ntmps57
      go_wp2_with (at_builtin; refine wp_appendN encP (w0 := w) base (by rfl) _ _ 24 35 (.agg #[.string ByteArray.empty, .string ByteArray.empty]) 2 32 (by rfl) Tryd.underlying24 Tryd.infoPr rfl (by decide) (by decide) encP_len encP_one _ l [x] B0 0 1 (by rfl) (by rfl) hy.out HO.out (HBB.out) hbase (by simpa [HN.out] using hbig) ?_; intro v1 w1 HO1 HB1 hg1 hw)
      all_goals (go_ret; exact ⟨_, rfl, HO1, by first | exact hg1 | (rw [← hcn]; exact hg1) | (rw [hcn] at hg1; exact hg1), by first | exact hw | (rw [← hcn]; exact hw) | (rw [hcn] at hw; exact hw)⟩)
/-- slices.Insert(l, i, x), l a row of the call's own. -/
theorem insertP (base : Nat) (w : World) (v : Value) (l : List Pr) (i : Nat) (x : Pr) (B0 : Nat) (hi : i ≤ l.length) (HO : Own encP 2 35 base w v l) (hbase : base ≤ w.heap.size) (hne : v.ownBlock ≠ some B0)
    (hbig : (l.length + 1) * 32 ≤ 140737488355328) (hx : w.heap[B0]? = some (.cells #[.string x.1, .string x.2] 35 (0, 0))) :
    Calls Tryd.prog 57 #[v, .int .i64 i, .slice (some ⟨B0, 0, none⟩) 1 1] w fun e w' =>
      ∃ v', e = .returned v' ∧ Own encP 2 35 base w' v' (l.take i ++ x :: l.drop i) ∧ w.grownBy w' v.ownBlock ∧ (v'.ownBlock = v.ownBlock ∨ ∃ b, v'.ownBlock = some b ∧ w.heap.size ≤ b) := by
  by_cases he : i = l.length
  · subst he
    rw [List.take_length, List.drop_length]
    obtain ⟨A, c, rfl, h1, h2, _⟩ := HO.rd encP_len
    refine insertP_end base w A c _ l x B0 rfl h1 h2 HO (fun a ha => ?_) (fun ha => ?_) hbase hbig hx
    · subst ha
      rcases HO.2 with ⟨h, _⟩ | ⟨g, cap, cur, h, _⟩
      · cases h
      · cases h; rfl
    · subst ha
      rcases HO.2 with ⟨h, _⟩ | ⟨g, cap, cur, h, _⟩
      · injection h with _ h3 h4; exact ⟨h3, h4⟩
      · cases h
  · obtain ⟨g, cap, cur, rfl, hb, hg, h1, h2, h3, h4⟩ := HO.form (by omega)
    by_cases hr : l.length + 1 ≤ cap
    · exact (insertP_room base w g cap l.length cur l i x B0 rfl (by omega) hb hg hr h2 h3 h4 hx (fun e => hne (by simp [Value.ownBlock, e]))).mono fun e w' ⟨a, b, c⟩ => ⟨_, a, b, c, .inl rfl⟩
    · exact (insertP_grow base w g cap l.length cur l i x B0 rfl (by omega) hbase hg h1 (by omega) hbig h4 hx).mono fun e w' ⟨G, a, b, c⟩ => ⟨_, a, b, c, .inr ⟨_, rfl, Nat.le_refl _⟩⟩
end Go.Proofs.YthilbmdpbmkakaaDoor
