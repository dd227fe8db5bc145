/- Opening of a message argument; two facts of the program. -/
import Derived.Test.YthilbmdpbmkakaaDoorWrap
set_option maxRecDepth 100000
set_option linter.unusedVariables false
namespace Go.Proofs.YthilbmdpbmkakaaDoor
open Go Go.RowKit Go.WideShapes Go.ChangeShapes Go.ChangeAt Go.Deep

abbrev lawTies : List LaidKind := [.data, .data, .data, .data, .pinned]
theorem ownM : ownKnob Tryd.prog.godebug = none := by kernel_rfl
theorem laidM : laidOutB Tryd.prog = true := by kernel_rfl
theorem open_msgV {H : Type} {enc : TypeId × Value → H} {w : World} {base : Nat} {held : Bool} {r : Reach} {b0 : Nat} {v : Value} {d : DataW H} {p : List MemPlace} (hv : Value.okWide Tryd.prog w r b0 26 v) (h : DataW.Trod enc Tryd.prog w base (fun _ => true) held 26 v d p) :
    ∃ (t q : ByteArray) (lv : Int) (rt : Bool) (pr ex : Int) (fr : ByteArray) (sq : Int) (A : Option Addr) (cap : Nat) (l : List Pr),
      v = .agg #[.string t, .string q, .int .i64 lv, .bool rt, .int .i64 pr, .int .i64 ex, .string fr, .int .i64 sq, .slice A l.length cap] ∧
      t.size ≤ maxLen ∧ q.size ≤ maxLen ∧ fr.size ≤ maxLen ∧ l.length ≤ maxLen ∧ PrFit l ∧ Rd encP 2 w A l := by
  obtain ⟨cs, rfl, _⟩ := okWide_struct Tryd.underlying26 hv
  obtain ⟨fuel, ht⟩ := h
  obtain ⟨k⟩ := cs
  obtain ⟨t, q, lv, rt, pr, ex, fr, sq, A, cap, l, he, h1⟩ := open_msg ht
  have he' : k = [.string t, .string q, .int .i64 lv, .bool rt, .int .i64 pr, .int .i64 ex, .string fr, .int .i64 sq, .slice A l.length cap] := he
  subst he'
  exact ⟨t, q, lv, rt, pr, ex, fr, sq, A, cap, l, rfl, h1⟩
end Go.Proofs.YthilbmdpbmkakaaDoor
