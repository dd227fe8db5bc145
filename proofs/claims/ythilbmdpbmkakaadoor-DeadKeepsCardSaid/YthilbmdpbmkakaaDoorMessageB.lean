/- Contracts: messages: message.Check, Get, Expired and the reference's Check, Expired, SameProps, Same. -/
import Derived.Test.YthilbmdpbmkakaaDoorMessageA
set_option linter.unusedVariables false
set_option linter.unusedSimpArgs false
namespace Go.Proofs.YthilbmdpbmkakaaDoor
open Go Go.RowKit

def inB (n most : Int) : Bool := decide (0 ≤ n) && decide (n ≤ most)
set_option maxHeartbeats 400000 in
theorem message_is (n most : Int) (w : World) :
    Calls Tryd.prog 38 #[.int .i64 n, .int .i64 most] w fun e w' => e = .returned (.bool (inB n most)) ∧ w = w' := by
  unfold inB
  go_enter Tryd.func38, Tryd.ntmps38
  go_wp2
  all_goals (go_ret; refine ⟨ret_bool ?_, rfl⟩; simp [*]; try omega)
/-- P5.4. -/
def checkE (t p : ByteArray) (lv pr ex : Int) (fr : ByteArray) (sq : Int) (l : List Pr) : Int :=
  if (!validB t.data.toList) = true then 12 else if (256 : Int) < p.size then 5 else if (!inB lv 2) = true then 14 else if (!inB pr 9) = true then 1 else if (!inB ex 1099511627776) = true then 1
  else if fr.toList = [] then (if (!inB sq 1099511627776) = true then 1 else propsE l) else if (!nameB fr.data.toList) = true then 11 else if (!inB sq 1099511627776) = true then 1 else propsE l
theorem ite_ff {α : Sort _} {b : Bool} {x y : α} (h : b = false) : (if b = true then x else y) = y := by subst h; rfl
theorem tf {b : Bool} (h : b = true) (h' : b = false) : False := Bool.false_ne_true (h'.symm.trans h)
theorem emp_and {fr : ByteArray} {q : Bool} (h : (!fr.toList.isEmpty) = true ∧ q = true) : q = true := h.2
theorem emp_or {fr : ByteArray} {q : Bool} (h : ¬ fr.toList = []) (h2 : (!fr.toList.isEmpty) = false ∨ q = false) : q = false := by
  rcases h2 with h2 | h2
  · exact absurd (by simpa using h2) h
  · exact h2
theorem Ext.cells2 {w w' : World} (h : Ext w w') : (∀ b o, b < w.heap.size → w'.cell? ⟨b, o, none⟩ = w.cell? ⟨b, o, none⟩) := h.cells

set_option maxRecDepth 100000 in
set_option maxHeartbeats 3200000 in
theorem message_Check (t p : ByteArray) (lv : Int) (rt : Bool) (pr ex : Int) (fr : ByteArray) (sq : Int) (A : Option Addr) (c : Nat) (l : List Pr) (w : World)
    (ht : t.size ≤ maxLen) (hp : p.size ≤ maxLen) (hfr : fr.size ≤ maxLen) (hl : l.length ≤ maxLen) (hf : PrFit l) (hr : Rd encP 2 w A l) :
    Calls Tryd.prog 20 #[.agg #[.string t, .string p, .int .i64 lv, .bool rt, .int .i64 pr, .int .i64 ex, .string fr, .int .i64 sq, .slice A l.length c]] w fun e w' => e = .returned (.int .i64 (checkE t p lv pr ex fr sq l)) ∧ Ext w w' := by
  have hp2 : p.size ≤ 9223372036854775807 := hp
  have HFit := Lib.hid hf; clear hf
  have HRd := Lib.hid hr; clear hr
  go_enter Tryd.func20, Tryd.ntmps20
  go_wp2_with (first
    | (go_at_call 37; refine (topic_Valid _ _ ht).mono ?_; rintro e w1 ⟨rfl, hE⟩; have hc1 := hE.cells; have hz1 : w.heap.size < w1.heap.size := (by have := hE.size; simp at this; omega); have HX := Lib.hid (Ext.trans ((Ext.refl w).alloc _) hE); clear hE)
    | (go_at_call 38; refine (message_is _ _ _).mono ?_; rintro e w' ⟨rfl, rfl⟩)
    | (go_at_call 32; refine (topic_Name _ _ hfr).mono ?_; rintro e w2 ⟨rfl, hE⟩; have hc2 := hE.cells; have HX2 := Lib.hid (Ext.trans HX.out hE); clear hE)
    | (go_at_call 39; refine (message_Props _ _ _ _ hl HFit.out (by first | exact HRd.out.ext HX2.out | exact HRd.out.ext HX.out)).mono ?_; rintro e w3 ⟨rfl, hE⟩; have HX3 := Lib.hid (by first | exact Ext.trans HX2.out hE | exact Ext.trans HX.out hE); clear hE))
  all_goals (go_ret; refine ⟨ret_int ?_, ?_⟩)
  all_goals first
    | exact HX3.out
    | exact HX2.out
    | exact HX.out
    | exact (tf (b := !inB pr 9) (by assumption) (by assumption)).elim
    | (unfold checkE; repeat (first | rw [if_pos (by assumption)] | rw [ite_ff (by assumption)] | rw [if_neg (by assumption)] | rw [if_neg (by omega)] | rw [if_pos (emp_and (fr := fr) (by assumption))] | rw [ite_ff (emp_or (fr := fr) (by assumption) (by assumption))]))

theorem inB_out {n most : Int} (h : n < 0 ∨ most < n) : (!inB n most) = true := by simp [inB]; omega
theorem inB_in {n most : Int} (h : 0 ≤ n) (h' : n ≤ most) : (!inB n most) = false := by simp [inB, h, h']
set_option maxRecDepth 100000 in
set_option maxHeartbeats 3200000 in
theorem ref_Check (t p : ByteArray) (lv : Int) (rt : Bool) (pr ex : Int) (fr : ByteArray) (sq : Int) (A : Option Addr) (c : Nat) (l : List Pr) (w : World)
    (ht : t.size ≤ maxLen) (hp : p.size ≤ maxLen) (hfr : fr.size ≤ maxLen) (hl : l.length ≤ maxLen) (hf : PrFit l) (hr : Rd encP 2 w A l) :
    Calls Tryd.prog 35 #[.agg #[.string t, .string p, .int .i64 lv, .bool rt, .int .i64 pr, .int .i64 ex, .string fr, .int .i64 sq, .slice A l.length c]] w fun e w' => e = .returned (.int .i64 (checkE t p lv pr ex fr sq l)) ∧ Ext w w' := by
  have hp2 : p.size ≤ 9223372036854775807 := hp
  have HFit := Lib.hid hf; clear hf
  have HRd := Lib.hid hr; clear hr
  go_enter Tryd.func35, Tryd.ntmps35
  go_wp2_with (first
    | (go_at_call 48; refine (ref_Valid _ _ ht).mono ?_; rintro e w1 ⟨rfl, hE⟩; have hc1 := hE.cells; have hz1 : w.heap.size < w1.heap.size := (by have := hE.size; simp at this; omega); have HX := Lib.hid (Ext.trans ((Ext.refl w).alloc _) hE); clear hE)
    | (go_at_call 25; refine (ref_Name _ _ hfr).mono ?_; rintro e w2 ⟨rfl, rfl⟩)
    | (go_at_call 49; refine (ref_Props _ _ _ _ hl HFit.out (HRd.out.ext HX.out)).mono ?_; rintro e w3 ⟨rfl, hE⟩; have HX3 := Lib.hid (Ext.trans HX.out hE); clear hE))
  all_goals (go_ret; refine ⟨ret_int ?_, ?_⟩)
  all_goals first
    | exact HX3.out
    | exact HX.out
    | (unfold checkE; repeat (first | rw [if_pos (by assumption)] | rw [ite_ff (by assumption)] | rw [if_neg (by assumption)] | rw [if_neg (by omega)] | rw [if_pos (inB_out (by omega))] | rw [ite_ff (inB_in (by omega) (by omega))] | rw [if_pos (emp_and (fr := fr) (by assumption))] | rw [ite_ff (emp_or (fr := fr) (by assumption) (by assumption))]))
end Go.Proofs.YthilbmdpbmkakaaDoor
