/- Contracts of chapter 28: From (program and reference). -/
import Derived.Test.YthilbmdpbmkakaaDoorDeadE
set_option linter.unusedVariables false
set_option linter.unusedSimpArgs false
namespace Go.Proofs.YthilbmdpbmkakaaDoor
open Go Go.RowKit

def cutN (s : ByteArray) : ByteArray := ⟨(Lib.cut s.data.toList [32]).1.toArray⟩
def cutR (s : ByteArray) : ByteArray := ⟨(Lib.cut s.data.toList [32]).2.1.toArray⟩
def cutK (s : ByteArray) : Bool := (Lib.cut s.data.toList [32]).2.2
def leadC (r : ByteArray) : Nat := (r.data.toList.headD 0).toNat
def fromB (s : ByteArray) : Bool := cutK s && (nameB (cutN s).data.toList && (decide ((cutR s).size = 1) && decide (49 ≤ leadC (cutR s) ∧ leadC (cutR s) ≤ 52)))
def fromN (s : ByteArray) : ByteArray := if fromB s = true then cutN s else ⟨#[]⟩
def fromI (s : ByteArray) : Int := if fromB s = true then ((leadC (cutR s) - 48 : Nat) : Int) else 0
theorem cut_E (s : ByteArray) (w : World) (hs : s.size < 4294967281) (hg : Glob w) :
    Calls Tryd.prog 31 #[.string s, .string ⟨#[32]⟩] w fun e w' => e = .returned (.tuple #[.string (cutN s), .string (cutR s), .bool (cutK s)]) ∧ Ext w w' := by
  obtain ⟨m, hm⟩ := hg.cell
  exact (Tryd.strings_Cut s ⟨#[32]⟩ m w hs hm).mono fun e w' ⟨he, n, hw⟩ => ⟨he, by rw [hw]; exact (Ext.refl w).drewN n⟩
theorem cutN_size (s : ByteArray) : (cutN s).size ≤ s.size := by
  show (cutN s).data.size ≤ s.data.size
  simp only [cutN, Lib.cut]
  split
  · simp; try omega
  · simp
theorem cutR_size (s : ByteArray) : (cutR s).size ≤ s.size := by
  show (cutR s).data.size ≤ s.data.size
  simp only [cutR, Lib.cut]
  split
  · simp; try omega
  · simp
theorem one_byte {r : ByteArray} (h : r.size = 1) : ∃ c : UInt8, r = ⟨#[c]⟩ := by
  have hd : r.data.toList.length = 1 := by rw [size_data]; exact h
  obtain ⟨c, hc⟩ := List.length_eq_one_iff.1 hd
  exact ⟨c, by rw [show r = ⟨r.data.toList.toArray⟩ by simp, hc]⟩
theorem lead1 (ch : UInt8) (h : 0 < (⟨#[ch]⟩ : ByteArray).size) : (⟨#[ch]⟩ : ByteArray)[0]'h = ch := rfl
theorem bl1 (a b : UInt8) : Op.bytesLess [a] [b] = decide (a.toNat < b.toNat) := by
  have h0 : Op.bytesLess ([] : List UInt8) [] = false := by rfl
  rw [Bool.eq_iff_iff]
  simp [Op.bytesLess, UInt8.lt_iff_toNat_lt]
theorem be1 (a : UInt8) : (a == 52) = decide (a.toNat = 52) := by
  rw [Bool.eq_iff_iff]
  simp [← UInt8.toNat_inj]
set_option maxRecDepth 100000 in
set_option maxHeartbeats 1600000 in
theorem dead_From (t p : ByteArray) (lv : Int) (rt : Bool) (pr ex : Int) (fr : ByteArray) (sq : Int) (A : Option Addr) (c : Nat) (l : List Pr) (w : World)
    (hl : l.length ≤ maxLen) (hs : (getV l kDied).size < 4294967281) (hr : Rd encP 2 w A l) (hg : Glob w) :
    Calls Tryd.prog 12 #[.agg #[.string t, .string p, .int .i64 lv, .bool rt, .int .i64 pr, .int .i64 ex, .string fr, .int .i64 sq, .slice A l.length c]] w fun e w' => e = .returned (.tuple #[.string (fromN (getV l kDied)), .int .i64 (fromI (getV l kDied))]) ∧ Ext w w' := by
  have HRd := Lib.hid hr; clear hr
  have HGl := Lib.hid hg; clear hg
  have HG := fun (W : World) (hW : Ext w W) => message_Get A c l kDied W hl (HRd.out.ext hW)
  have HGet := Lib.hid HG; clear HG
  generalize hv : getV l kDied = s at *
  generalize hb : getH l kDied = b at *
  clear hv hb
  have hN := cutN_size s
  have hR := cutR_size s
  have HB : Hid (fromB s = (cutK s && (nameB (cutN s).data.toList && (decide ((cutR s).size = 1) && decide (49 ≤ leadC (cutR s) ∧ leadC (cutR s) ≤ 52))))) := Lib.hid rfl
  have HI : Hid (fromI s = if fromB s = true then ((leadC (cutR s) - 48 : Nat) : Int) else 0) := Lib.hid rfl
  have HNm : Hid (fromN s = if fromB s = true then cutN s else ⟨#[]⟩) := Lib.hid rfl
  have HC := Lib.hid (fun (W : World) (hW : Ext w W) => cut_E s W hs (HGl.out.ext hW))
  generalize cutN s = N at *
  generalize cutR s = R at *
  generalize fromB s = B at *
  generalize cutK s = K at *
  have hNm : N.size ≤ maxLen := by unfold maxLen; omega
  have hRm : ¬ 9223372036854775807 < R.size := by omega
  have key : (B = false → Ending.returned (Value.tuple #[.string ⟨#[]⟩, .int .i64 0]) = .returned (.tuple #[.string (fromN s), .int .i64 (fromI s)])) := fun h => by rw [HNm.out, HI.out, h]; rfl
  have KEY := Lib.hid key; clear key
  have key2 : ∀ (k : Int), B = true → k = ((leadC R - 48 : Nat) : Int) → Ending.returned (Value.tuple #[.string N, .int .i64 k]) = .returned (.tuple #[.string (fromN s), .int .i64 (fromI s)]) := fun k h hk => by rw [HNm.out, HI.out, h, hk]; rfl
  have KEY2 := Lib.hid key2; clear key2
  cases K
  · go_enter Tryd.func12, Tryd.ntmps12
    go_wp2_with (first
      | (go_at_call 30; refine (HGet.out _ ((Ext.refl w).alloc _)).mono ?_; rintro e w1 ⟨rfl, hE⟩; have HX := Lib.hid (Ext.trans ((Ext.refl w).alloc _) hE); clear hE)
      | (go_at_call 31; refine (HC.out _ HX.out).mono ?_; rintro e w2 ⟨rfl, hE⟩; have HX2 := Lib.hid (HX.out.trans hE); clear hE))
    go_ret2
    exact ⟨KEY.out (by rw [HB.out]; rfl), HX2.out⟩
  · cases hn : nameB N.data.toList
    · go_enter Tryd.func12, Tryd.ntmps12
      go_wp2_with (first
        | (go_at_call 30; refine (HGet.out _ ((Ext.refl w).alloc _)).mono ?_; rintro e w1 ⟨rfl, hE⟩; have HX := Lib.hid (Ext.trans ((Ext.refl w).alloc _) hE); clear hE)
        | (go_at_call 31; refine (HC.out _ HX.out).mono ?_; rintro e w2 ⟨rfl, hE⟩; have HX2 := Lib.hid (HX.out.trans hE); clear hE)
        | (go_at_call 32; refine (topic_Name N _ hNm).mono ?_; rintro e w3 ⟨rfl, hE⟩; have HX3 := Lib.hid (HX2.out.trans hE); clear hE))
      go_ret2
      exact ⟨KEY.out (by rw [HB.out, hn]; rfl), HX3.out⟩
    · by_cases h1 : R.size = 1
      · obtain ⟨ch, hch⟩ := one_byte h1
        subst hch
        go_enter Tryd.func12, Tryd.ntmps12
        go_wp2_with (first
          | (go_at_call 30; refine (HGet.out _ ((Ext.refl w).alloc _)).mono ?_; rintro e w1 ⟨rfl, hE⟩; have HX := Lib.hid (Ext.trans ((Ext.refl w).alloc _) hE); clear hE)
          | (go_at_call 31; refine (HC.out _ HX.out).mono ?_; rintro e w2 ⟨rfl, hE⟩; have HX2 := Lib.hid (HX.out.trans hE); clear hE)
          | (go_at_call 32; refine (topic_Name N _ hNm).mono ?_; rintro e w3 ⟨rfl, hE⟩; have HX3 := Lib.hid (HX2.out.trans hE); clear hE))
        all_goals try (go_quiet (fail))
        all_goals try go_wp2
        all_goals go_ret2
        all_goals first
          | exact ⟨KEY.out (by rw [HB.out, hn]; simp [leadC, lead1] at *; omega), HX3.out⟩
          | (refine ⟨KEY2.out _ ?_ ?_, HX3.out.drewN _⟩
             · rw [HB.out, hn]; simp [leadC, lead1] at *; omega
             · simp [leadC, lead1] at *; omega)
      · go_enter Tryd.func12, Tryd.ntmps12
        go_wp2_with (first
          | (go_at_call 30; refine (HGet.out _ ((Ext.refl w).alloc _)).mono ?_; rintro e w1 ⟨rfl, hE⟩; have HX := Lib.hid (Ext.trans ((Ext.refl w).alloc _) hE); clear hE)
          | (go_at_call 31; refine (HC.out _ HX.out).mono ?_; rintro e w2 ⟨rfl, hE⟩; have HX2 := Lib.hid (HX.out.trans hE); clear hE)
          | (go_at_call 32; refine (topic_Name N _ hNm).mono ?_; rintro e w3 ⟨rfl, hE⟩; have HX3 := Lib.hid (HX2.out.trans hE); clear hE))
        go_ret2
        exact ⟨KEY.out (by rw [HB.out, hn]; simp [h1]), HX3.out⟩

set_option maxRecDepth 100000 in
set_option maxHeartbeats 1600000 in
theorem ref_From (t p : ByteArray) (lv : Int) (rt : Bool) (pr ex : Int) (fr : ByteArray) (sq : Int) (A : Option Addr) (c : Nat) (l : List Pr) (w : World)
    (hl : l.length ≤ maxLen) (hs : (getV l kDied).size < 4294967281) (hr : Rd encP 2 w A l) (hg : Glob w) :
    Calls Tryd.prog 13 #[.agg #[.string t, .string p, .int .i64 lv, .bool rt, .int .i64 pr, .int .i64 ex, .string fr, .int .i64 sq, .slice A l.length c]] w fun e w' => e = .returned (.tuple #[.string (fromN (getV l kDied)), .int .i64 (fromI (getV l kDied))]) ∧ Ext w w' := by
  have HRd := Lib.hid hr; clear hr
  have HGl := Lib.hid hg; clear hg
  have HG := fun (W : World) (hW : Ext w W) => ref_get t p lv rt pr ex fr sq A c l kDied W hl (HRd.out.ext hW)
  have HGet := Lib.hid HG; clear HG
  generalize hv : getV l kDied = s at *
  clear hv
  have hN := cutN_size s
  have hR := cutR_size s
  have HB : Hid (fromB s = (cutK s && (nameB (cutN s).data.toList && (decide ((cutR s).size = 1) && decide (49 ≤ leadC (cutR s) ∧ leadC (cutR s) ≤ 52))))) := Lib.hid rfl
  have HI : Hid (fromI s = if fromB s = true then ((leadC (cutR s) - 48 : Nat) : Int) else 0) := Lib.hid rfl
  have HNm : Hid (fromN s = if fromB s = true then cutN s else ⟨#[]⟩) := Lib.hid rfl
  have HC := Lib.hid (fun (W : World) (hW : Ext w W) => cut_E s W hs (HGl.out.ext hW))
  generalize cutN s = N at *
  generalize cutR s = R at *
  generalize fromB s = B at *
  generalize cutK s = K at *
  have hNm : N.size ≤ maxLen := by unfold maxLen; omega
  have hRm : ¬ 9223372036854775807 < R.size := by omega
  have key : (B = false → Ending.returned (Value.tuple #[.string ⟨#[]⟩, .int .i64 0]) = .returned (.tuple #[.string (fromN s), .int .i64 (fromI s)])) := fun h => by rw [HNm.out, HI.out, h]; rfl
  have KEY := Lib.hid key; clear key
  have key2 : ∀ (k : Int), B = true → k = ((leadC R - 48 : Nat) : Int) → Ending.returned (Value.tuple #[.string N, .int .i64 k]) = .returned (.tuple #[.string (fromN s), .int .i64 (fromI s)]) := fun k h hk => by rw [HNm.out, HI.out, h, hk]; rfl
  have KEY2 := Lib.hid key2; clear key2
  cases K
  · go_enter Tryd.func13, Tryd.ntmps13
    go_wp2_with (first
      | (go_at_call 33; refine (HGet.out _ ((Ext.refl w).alloc _)).mono ?_; rintro e w1 ⟨rfl, hE⟩; have HX := Lib.hid (Ext.trans ((Ext.refl w).alloc _) hE); clear hE)
      | (go_at_call 31; refine (HC.out _ HX.out).mono ?_; rintro e w2 ⟨rfl, hE⟩; have HX2 := Lib.hid (HX.out.trans hE); clear hE))
    go_ret2
    exact ⟨KEY.out (by rw [HB.out]; rfl), HX2.out⟩
  · cases hn : nameB N.data.toList
    · go_enter Tryd.func13, Tryd.ntmps13
      go_wp2_with (first
        | (go_at_call 33; refine (HGet.out _ ((Ext.refl w).alloc _)).mono ?_; rintro e w1 ⟨rfl, hE⟩; have HX := Lib.hid (Ext.trans ((Ext.refl w).alloc _) hE); clear hE)
        | (go_at_call 31; refine (HC.out _ HX.out).mono ?_; rintro e w2 ⟨rfl, hE⟩; have HX2 := Lib.hid (HX.out.trans hE); clear hE)
        | (go_at_call 25; refine (ref_Name N _ hNm).mono ?_; rintro e w3 ⟨rfl, rfl⟩))
      go_ret2
      exact ⟨KEY.out (by rw [HB.out, hn]; rfl), HX2.out⟩
    · by_cases h1 : R.size = 1
      · obtain ⟨ch, hch⟩ := one_byte h1
        subst hch
        go_enter Tryd.func13, Tryd.ntmps13
        go_wp2_with (first
          | (go_at_call 33; refine (HGet.out _ ((Ext.refl w).alloc _)).mono ?_; rintro e w1 ⟨rfl, hE⟩; have HX := Lib.hid (Ext.trans ((Ext.refl w).alloc _) hE); clear hE)
          | (go_at_call 31; refine (HC.out _ HX.out).mono ?_; rintro e w2 ⟨rfl, hE⟩; have HX2 := Lib.hid (HX.out.trans hE); clear hE)
          | (go_at_call 25; refine (ref_Name N _ hNm).mono ?_; rintro e w3 ⟨rfl, rfl⟩))
        all_goals try (go_quiet (fail))
        all_goals try go_wp2
        all_goals go_ret2
        all_goals first
          | exact ⟨KEY.out (by rw [HB.out, hn]; simp [leadC, lead1, bl1, be1] at *; omega), HX2.out⟩
          | (refine ⟨KEY2.out _ ?_ ?_, HX2.out.drewN _⟩
             · rw [HB.out, hn]; simp [leadC, lead1, bl1, be1] at *; omega
             · simp [leadC, lead1, bl1, be1] at *; omega)
      · go_enter Tryd.func13, Tryd.ntmps13
        go_wp2_with (first
          | (go_at_call 33; refine (HGet.out _ ((Ext.refl w).alloc _)).mono ?_; rintro e w1 ⟨rfl, hE⟩; have HX := Lib.hid (Ext.trans ((Ext.refl w).alloc _) hE); clear hE)
          | (go_at_call 31; refine (HC.out _ HX.out).mono ?_; rintro e w2 ⟨rfl, hE⟩; have HX2 := Lib.hid (HX.out.trans hE); clear hE)
          | (go_at_call 25; refine (ref_Name N _ hNm).mono ?_; rintro e w3 ⟨rfl, rfl⟩))
        go_ret2
        exact ⟨KEY.out (by rw [HB.out, hn]; simp [h1]), HX2.out⟩
end Go.Proofs.YthilbmdpbmkakaaDoor
