/- Chapter 28: the law of what the properties say. -/
import Derived.Test.YthilbmdpbmkakaaDoorDeadI
import Derived.Deep.RegionHeld3
set_option linter.unusedVariables false
set_option linter.unusedSimpArgs false
namespace Go.Proofs.YthilbmdpbmkakaaDoor
open Go Go.RowKit

theorem getV_le (n : Nat) : ∀ (l : List Pr) (k : ByteArray), (∀ p ∈ l, p.2.size ≤ n) → (getV l k).size ≤ n
  | [], k, _ => by simp [getV, getP]
  | q :: l, k, h => by
    simp only [getV, getP]
    split
    · exact h q (by simp)
    · exact getV_le n l k (fun p hp => h p (List.mem_cons_of_mem _ hp))
abbrev msgC (t p : ByteArray) (lv : Int) (rt : Bool) (pr ex : Int) (fr : ByteArray) (sq : Int) (s : Value) : Obj := .cells #[.string t, .string p, .int .i64 lv, .bool rt, .int .i64 pr, .int .i64 ex, .string fr, .int .i64 sq, s] 26
theorem msg_S (t p : ByteArray) (lv : Int) (rt : Bool) (pr ex : Int) (fr : ByteArray) (sq : Int) (s : Value) (w wx : World) (h : Ext (w.alloc (msgC t p lv rt pr ex fr sq s)) wx) :
    Ext (w.alloc (msgC t p lv rt pr ex fr sq s)) wx ∧ wx.cell? ⟨w.heap.size, 0, none⟩ = some (.string t) ∧ wx.cell? ⟨w.heap.size, 1, none⟩ = some (.string p) ∧ wx.cell? ⟨w.heap.size, 2, none⟩ = some (.int .i64 lv) ∧ wx.cell? ⟨w.heap.size, 3, none⟩ = some (.bool rt) ∧ wx.cell? ⟨w.heap.size, 4, none⟩ = some (.int .i64 pr) ∧ wx.cell? ⟨w.heap.size, 5, none⟩ = some (.int .i64 ex) ∧ wx.cell? ⟨w.heap.size, 6, none⟩ = some (.string fr) ∧ wx.cell? ⟨w.heap.size, 7, none⟩ = some (.int .i64 sq) ∧ wx.cell? ⟨w.heap.size, 8, none⟩ = some s := by
  have hc := h.cells
  refine ⟨h, ?_⟩
  refine ⟨?_, ?_, ?_, ?_, ?_, ?_, ?_, ?_, ?_⟩ <;> go_simp
set_option maxRecDepth 100000 in
set_option maxHeartbeats 3200000 in
theorem law_Reads (t p : ByteArray) (lv : Int) (rt : Bool) (pr ex : Int) (fr : ByteArray) (sq : Int) (A : Option Addr) (c : Nat) (l : List Pr) (w : World)
    (hl : l.length ≤ maxLen) (hf : PrFit l) (hr : Rd encP 2 w A l) (hg : Glob w) :
    Calls Tryd.prog 4 #[.agg #[.string t, .string p, .int .i64 lv, .bool rt, .int .i64 pr, .int .i64 ex, .string fr, .int .i64 sq, .slice A l.length c]] w fun e w' => e = .returned (.bool true) ∧ Ext w w' := by
  have hl' := hl
  unfold maxLen at hl'
  have HRd := Lib.hid hr; clear hr
  have HGl := Lib.hid hg; clear hg
  have HF := Lib.hid hf; clear hf
  by_cases h20 : 20 < l.length
  · go_enter Tryd.func4, Tryd.ntmps4
    go_wp2_with (first
      | (go_at_call 9; refine (example_holds _ (HGl.out.ext ((Ext.refl w).alloc _))).mono ?_; rintro e w2 ⟨rfl, hE⟩; have HX2 := Lib.hid (((Ext.refl w).alloc _).trans hE); clear hE))
    go_ret
    exact ⟨rfl, HX2.out⟩
  · go_enter Tryd.func4, Tryd.ntmps4
    have H20 : Hid (l.length ≤ 20) := Lib.hid (by omega)
    have HW : Hid (∀ W, Ext (w.alloc (msgC t p lv rt pr ex fr sq (.slice A l.length c))) W → Ext w W) := Lib.hid (fun W h => ((Ext.refl w).alloc _).trans h)
    go_upto_block 1 with fail
    go_loopw [17] (fun s wr => ∃ k : Nat, k ≤ l.length ∧ s = .int .i64 k ∧ Ext (w.alloc (msgC t p lv rt pr ex fr sq (.slice A l.length c))) wr ∧ ∀ j (h : j < l.length), j < k → l[j].2.size ≤ 300) (fun s _ => l.length - (intOf s).toNat)
    case atStart => exact ⟨0, by omega, rfl, Ext.refl _, fun j h h0 => absurd h0 (by omega)⟩
    case round =>
      obtain ⟨k, hk, rfl, hE, hsz⟩ := hrel
      have HE := Lib.hid hE; clear hE
      have HSZ := Lib.hid hsz; clear hsz
      by_cases hlt : k < l.length
      · obtain ⟨b1, off1, rfl, hb1, c1, c2⟩ := (HRd.out.ext (HW.out _ HE.out)).pr hlt
        obtain ⟨f1, f2⟩ := HF.out.at k hlt
        have HK : Hid (∀ j (h : j < l.length), j < k + 1 → j = k ∨ j < k) := Lib.hid (fun j _ hj => by omega)
        unfold maxLen at f1 f2
        by_cases g1 : 300 < l[k].1.size
        · go_wp2_with (first
            | (go_at_call 9; refine (example_holds _ (HGl.out.ext ((HW.out _ HE.out).alloc _))).mono ?_; rintro e w2 ⟨rfl, hE⟩; have HX2 := Lib.hid (((HW.out _ HE.out).alloc _).trans hE); clear hE))
          go_ret
          exact ⟨rfl, HX2.out⟩
        by_cases g2 : 300 < l[k].2.size
        · go_wp2_with (first
            | (go_at_call 9; refine (example_holds _ (HGl.out.ext ((HW.out _ HE.out).alloc _))).mono ?_; rintro e w2 ⟨rfl, hE⟩; have HX2 := Lib.hid (((HW.out _ HE.out).alloc _).trans hE); clear hE))
          go_ret
          exact ⟨rfl, HX2.out⟩
        go_wp2
        go_roundw
        case rel => exact ⟨k + 1, by omega, by go_num, HE.out.alloc _, fun j h hj => by
          rcases HK.out j h hj with rfl | hj
          · omega
          · exact HSZ.out j h hj⟩
        case measure => simp [intOf]; omega
      · have hke : k = l.length := by omega
        subst hke
        have hgs : (getV l kDied).size ≤ 300 := getV_le 300 l kDied (fun p hp => by
          obtain ⟨j, hj, rfl⟩ := List.mem_iff_getElem.1 hp
          exact HSZ.out j hj hj)
        have hgt : (getV l kDied).size < 4294967281 := by omega
        clear HSZ
        have hc := HE.out.cells
        have hz : w.heap.size < wr.heap.size := by have := HE.out.size; simp at this; omega
        go_upto_region 11 with (first
          | (go_at_call 12; refine (dead_From t p lv rt pr ex fr sq A c l _ hl hgt (HRd.out.ext (HW.out _ HE.out)) (HGl.out.ext (HW.out _ HE.out))).mono ?_; rintro e w1 ⟨rfl, hE⟩; have hc1 := hE.cells; have hz1 : w.heap.size < w1.heap.size := (by have := hE.size; omega); have HE1 := Lib.hid (HE.out.trans hE); clear hE)
          | (go_at_call 13; refine (ref_From t p lv rt pr ex fr sq A c l _ hl hgt (HRd.out.ext (HW.out _ HE1.out)) (HGl.out.ext (HW.out _ HE1.out))).mono ?_; rintro e w2 ⟨rfl, hE⟩; have hc2 := hE.cells; have hz2 : w.heap.size < w2.heap.size := (by have := hE.size; omega); have HE2 := Lib.hid (HE1.out.trans hE); clear hE))
        have HY := Lib.hid (HE2.out.trans (Ext.refl _).drew)
        have HS := Lib.hid (msg_S _ _ _ _ _ _ _ _ _ _ _ HY.out)
        go_region_held3 (fun wx => Ext (w.alloc (msgC t p lv rt pr ex fr sq (.slice A l.length c))) wx ∧ wx.cell? ⟨w.heap.size, 0, none⟩ = some (.string t) ∧ wx.cell? ⟨w.heap.size, 1, none⟩ = some (.string p) ∧ wx.cell? ⟨w.heap.size, 2, none⟩ = some (.int .i64 lv) ∧ wx.cell? ⟨w.heap.size, 3, none⟩ = some (.bool rt) ∧ wx.cell? ⟨w.heap.size, 4, none⟩ = some (.int .i64 pr) ∧ wx.cell? ⟨w.heap.size, 5, none⟩ = some (.int .i64 ex) ∧ wx.cell? ⟨w.heap.size, 6, none⟩ = some (.string fr) ∧ wx.cell? ⟨w.heap.size, 7, none⟩ = some (.int .i64 sq) ∧ wx.cell? ⟨w.heap.size, 8, none⟩ = some (.slice A l.length c)) (exact HS.out)
          (first
            | (go_at_call 14; ((with_reducible refine (dead_Deaths t p lv rt pr ex fr sq A c l _ hl HF.out (HRd.out.ext (HW.out _ HY.out))).mono ?_); rintro e w3 ⟨rfl, hE⟩; have HY := Lib.hid (HY.out.trans hE); have HS := Lib.hid (msg_S _ _ _ _ _ _ _ _ _ _ _ HY.out); clear hE))
            | (go_at_call 15; ((with_reducible refine (ref_Deaths t p lv rt pr ex fr sq A c l _ hl HF.out (HRd.out.ext (HW.out _ HY.out)) (HGl.out.ext (HW.out _ HY.out))).mono ?_); rintro e w3 ⟨rfl, hE⟩; have HY := Lib.hid (HY.out.trans hE); have HS := Lib.hid (msg_S _ _ _ _ _ _ _ _ _ _ _ HY.out); clear hE))
            | (go_at_call 16; ((with_reducible refine (dead_Again t p lv rt pr ex fr sq A c l _ hl HF.out (HRd.out.ext (HW.out _ HY.out))).mono ?_); rintro e w3 ⟨rfl, hE⟩; have HY := Lib.hid (HY.out.trans hE); have HS := Lib.hid (msg_S _ _ _ _ _ _ _ _ _ _ _ HY.out); clear hE))
            | (go_at_call 17; ((with_reducible refine (ref_Again t p lv rt pr ex fr sq A c l _ hl HF.out (HRd.out.ext (HW.out _ HY.out)) (HGl.out.ext (HW.out _ HY.out))).mono ?_); rintro e w3 ⟨rfl, hE⟩; have HY := Lib.hid (HY.out.trans hE); have HS := Lib.hid (msg_S _ _ _ _ _ _ _ _ _ _ _ HY.out); clear hE))
            | (go_at_call 9; ((with_reducible refine (example_holds _ (HGl.out.ext (HW.out _ HY.out))).mono ?_); rintro e w3 ⟨rfl, hE⟩; have HY := Lib.hid (HY.out.trans hE); have HS := Lib.hid (msg_S _ _ _ _ _ _ _ _ _ _ _ HY.out); clear hE)))
        all_goals (go_wp2_with fail)
        all_goals go_ret
        all_goals exact ⟨ret_bool (by simp), HW.out _ HY.out⟩
end Go.Proofs.YthilbmdpbmkakaaDoor
