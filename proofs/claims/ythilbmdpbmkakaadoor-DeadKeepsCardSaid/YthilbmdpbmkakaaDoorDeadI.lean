/- Chapter 28: the law of the reasons. -/
import Derived.Test.YthilbmdpbmkakaaDoorDeadH
import Derived.Deep.RegionHeld3
set_option linter.unusedVariables false
set_option linter.unusedSimpArgs false
namespace Go.Proofs.YthilbmdpbmkakaaDoor
open Go Go.RowKit

theorem law_S (nm dd : ByteArray) (mx ttl att num arr eatt : Int) (t p : ByteArray) (lv : Int) (rt : Bool) (pr ex : Int) (fr : ByteArray) (sq : Int) (A : Option Addr) (n c : Nat) (w wx : World) (h : Ext ((w.alloc (.cells #[.string nm, .int .i64 mx, .int .i64 ttl, .int .i64 att, .string dd] 23)).alloc (.cells #[.int .i64 num, .int .i64 arr, .int .i64 eatt, .string t, .string p, .int .i64 lv, .bool rt, .int .i64 pr, .int .i64 ex, .string fr, .int .i64 sq, .slice A n c] 28)) wx) : Ext ((w.alloc (.cells #[.string nm, .int .i64 mx, .int .i64 ttl, .int .i64 att, .string dd] 23)).alloc (.cells #[.int .i64 num, .int .i64 arr, .int .i64 eatt, .string t, .string p, .int .i64 lv, .bool rt, .int .i64 pr, .int .i64 ex, .string fr, .int .i64 sq, .slice A n c] 28)) wx ∧ wx.cell? ⟨w.heap.size, 0, none⟩ = some (.string nm) ∧ wx.cell? ⟨w.heap.size, 1, none⟩ = some (.int .i64 mx) ∧ wx.cell? ⟨w.heap.size, 2, none⟩ = some (.int .i64 ttl) ∧ wx.cell? ⟨w.heap.size, 3, none⟩ = some (.int .i64 att) ∧ wx.cell? ⟨w.heap.size, 4, none⟩ = some (.string dd) ∧ wx.cell? ⟨w.heap.size + 1, 0, none⟩ = some (.int .i64 num) ∧ wx.cell? ⟨w.heap.size + 1, 1, none⟩ = some (.int .i64 arr) ∧ wx.cell? ⟨w.heap.size + 1, 2, none⟩ = some (.int .i64 eatt) ∧ wx.cell? ⟨w.heap.size + 1, 3, none⟩ = some (.string t) ∧ wx.cell? ⟨w.heap.size + 1, 4, none⟩ = some (.string p) ∧ wx.cell? ⟨w.heap.size + 1, 5, none⟩ = some (.int .i64 lv) ∧ wx.cell? ⟨w.heap.size + 1, 6, none⟩ = some (.bool rt) ∧ wx.cell? ⟨w.heap.size + 1, 7, none⟩ = some (.int .i64 pr) ∧ wx.cell? ⟨w.heap.size + 1, 8, none⟩ = some (.int .i64 ex) ∧ wx.cell? ⟨w.heap.size + 1, 9, none⟩ = some (.string fr) ∧ wx.cell? ⟨w.heap.size + 1, 10, none⟩ = some (.int .i64 sq) ∧ wx.cell? ⟨w.heap.size + 1, 11, none⟩ = some (.slice A n c) := by
  have hc := h.cells
  refine ⟨h, ?_⟩
  refine ⟨?_, ?_, ?_, ?_, ?_, ?_, ?_, ?_, ?_, ?_, ?_, ?_, ?_, ?_, ?_, ?_, ?_⟩ <;> go_simp
set_option maxRecDepth 100000 in
set_option maxHeartbeats 3200000 in
theorem law_Reasons (nm dd : ByteArray) (mx ttl att num arr eatt : Int) (t p : ByteArray) (lv : Int) (rt : Bool) (pr ex : Int) (fr : ByteArray) (sq : Int) (A : Option Addr) (n c : Nat) (now : Int) (w : World) (h1 : nm.size ≤ maxLen) (h2 : dd.size ≤ maxLen) (hg : Glob w) :
    Calls Tryd.prog 3 #[.agg #[.string nm, .int .i64 mx, .int .i64 ttl, .int .i64 att, .string dd], .agg #[.int .i64 num, .int .i64 arr, .int .i64 eatt, .string t, .string p, .int .i64 lv, .bool rt, .int .i64 pr, .int .i64 ex, .string fr, .int .i64 sq, .slice A n c], .int .i64 now] w
      fun e w' => e = .returned (.bool true) ∧ Ext w w' := by
  have HGl := Lib.hid hg; clear hg
  go_enter Tryd.func3, Tryd.ntmps3
  go_wp2_with (first
    | (go_at_call 8; refine (ref25_Check _ _ _ _ _ _ h1 h2).mono ?_; rintro e w1 ⟨⟨k, rfl⟩, hE⟩; have HX := Lib.hid (Ext.trans (((Ext.refl w).alloc _).alloc _) hE); have HX0 := Lib.hid hE; have hc1 := hE.cells; have hf1 := hE.frozens; have hz10 : w.heap.size < w1.heap.size := (by have := hE.size; (try simp at this); omega); have hz11 : w.heap.size + 1 < w1.heap.size := (by have := hE.size; (try simp at this); omega); clear hE)
    | (go_at_call 9; refine (example_holds _ (HGl.out.ext HX.out)).mono ?_; rintro e w2 ⟨rfl, hE⟩; have HX2 := Lib.hid (HX.out.trans hE); clear hE))
  all_goals first
    | (go_region_held3 (fun wx => Ext ((w.alloc (.cells #[.string nm, .int .i64 mx, .int .i64 ttl, .int .i64 att, .string dd] 23)).alloc (.cells #[.int .i64 num, .int .i64 arr, .int .i64 eatt, .string t, .string p, .int .i64 lv, .bool rt, .int .i64 pr, .int .i64 ex, .string fr, .int .i64 sq, .slice A n c] 28)) wx ∧ wx.cell? ⟨w.heap.size, 0, none⟩ = some (.string nm) ∧ wx.cell? ⟨w.heap.size, 1, none⟩ = some (.int .i64 mx) ∧ wx.cell? ⟨w.heap.size, 2, none⟩ = some (.int .i64 ttl) ∧ wx.cell? ⟨w.heap.size, 3, none⟩ = some (.int .i64 att) ∧ wx.cell? ⟨w.heap.size, 4, none⟩ = some (.string dd) ∧ wx.cell? ⟨w.heap.size + 1, 0, none⟩ = some (.int .i64 num) ∧ wx.cell? ⟨w.heap.size + 1, 1, none⟩ = some (.int .i64 arr) ∧ wx.cell? ⟨w.heap.size + 1, 2, none⟩ = some (.int .i64 eatt) ∧ wx.cell? ⟨w.heap.size + 1, 3, none⟩ = some (.string t) ∧ wx.cell? ⟨w.heap.size + 1, 4, none⟩ = some (.string p) ∧ wx.cell? ⟨w.heap.size + 1, 5, none⟩ = some (.int .i64 lv) ∧ wx.cell? ⟨w.heap.size + 1, 6, none⟩ = some (.bool rt) ∧ wx.cell? ⟨w.heap.size + 1, 7, none⟩ = some (.int .i64 pr) ∧ wx.cell? ⟨w.heap.size + 1, 8, none⟩ = some (.int .i64 ex) ∧ wx.cell? ⟨w.heap.size + 1, 9, none⟩ = some (.string fr) ∧ wx.cell? ⟨w.heap.size + 1, 10, none⟩ = some (.int .i64 sq) ∧ wx.cell? ⟨w.heap.size + 1, 11, none⟩ = some (.slice A n c)) (first | exact HS.out | exact law_S _ _ _ _ _ _ _ _ _ _ _ _ _ _ _ _ _ _ _ _ _ (HX0.out.trans (Ext.refl _).drew))
        (first
          | (go_at_call 10; refine (dead_Reason _ _ _ _ _ _ _ _ _ _ _ _ _ _ _ _ _ _ _ _ _).mono ?_; rintro e w3 ⟨rfl, hE⟩; (first | have HY := Lib.hid (HY.out.trans hE) | have HY := Lib.hid ((HX0.out.trans (Ext.refl _).drew).trans hE)); have HS := Lib.hid (law_S _ _ _ _ _ _ _ _ _ _ _ _ _ _ _ _ _ _ _ _ _ HY.out))
          | (go_at_call 11; refine (ref_Reason _ _ _ _ _ _ _ _ _ _ _ _ _ _ _ _ _ _ _ _ _).mono ?_; rintro e w3 ⟨rfl, hE⟩; (first | have HY := Lib.hid (HY.out.trans hE) | have HY := Lib.hid ((HX0.out.trans (Ext.refl _).drew).trans hE)); have HS := Lib.hid (law_S _ _ _ _ _ _ _ _ _ _ _ _ _ _ _ _ _ _ _ _ _ HY.out))
          | (go_at_call 9; refine (example_holds _ (HGl.out.ext ((((Ext.refl w).alloc _).alloc _).trans HY.out))).mono ?_; rintro e w3 ⟨rfl, hE⟩; (first | have HY := Lib.hid (HY.out.trans hE) | have HY := Lib.hid ((HX0.out.trans (Ext.refl _).drew).trans hE)); have HS := Lib.hid (law_S _ _ _ _ _ _ _ _ _ _ _ _ _ _ _ _ _ _ _ _ _ HY.out))))
    | skip
  all_goals try (go_wp2_with fail)
  all_goals go_ret
  all_goals first
    | exact ⟨ret_bool (by simp), (((Ext.refl w).alloc _).alloc _).trans HY.out⟩
    | exact ⟨ret_bool (by simp), HX2.out⟩
end Go.Proofs.YthilbmdpbmkakaaDoor
