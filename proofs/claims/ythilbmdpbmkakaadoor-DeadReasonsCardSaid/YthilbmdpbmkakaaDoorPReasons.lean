/- DeadReasons: for every description, entry and instant the law returns true and its arguments read as before; the library's tables are those that the program's text lays. -/
import Derived.Test.YthilbmdpbmkakaaDoorWrap
import Derived.Test.YthilbmdpbmkakaaDoorDeadI
import Derived.Test.YthilbmdpbmkakaaDoorCards
import Derived.LaidOnce
import Derived.SevenTiedAt
set_option linter.unusedVariables false
set_option maxRecDepth 100000
namespace Go.Proofs.YthilbmdpbmkakaaDoor
open Go Go.RowKit Go.WideShapes Go.ChangeShapes Go.ChangeAt Go.Deep

theorem ownK : ownKnob Tryd.prog.godebug = none := by kernel_rfl
theorem laidOutP : laidOutB Tryd.prog = true := by kernel_rfl
section
variable {H : Type} {enc : TypeId × Value → H} {w : World} {base : Nat} {held : Bool}
theorem open_spec {r : Reach} {b0 : Nat} {v : Value} {d : DataW H} {p : List MemPlace} (hv : Value.okWide Tryd.prog w r b0 23 v) (h : DataW.Trod enc Tryd.prog w base (fun _ => true) held 23 v d p) :
    ∃ (nm dd : ByteArray) (mx ttl att : Int), v = .agg #[.string nm, .int .i64 mx, .int .i64 ttl, .int .i64 att, .string dd] ∧ nm.size ≤ maxLen ∧ dd.size ≤ maxLen := by
  obtain ⟨cs, rfl, _⟩ := okWide_struct Tryd.underlying23 hv
  obtain ⟨fuel, ht⟩ := h
  obtain ⟨xs, n, _, _, hl, hx, hf⟩ := DataW.trod_struct Tryd.underlying23 ht
  have h5 : Tryd.prog.cellsOf 23 = 5 := by kernel_rfl
  rw [h5] at hl
  obtain ⟨l⟩ := cs
  obtain ⟨c0, c1, c2, c3, c4, hc⟩ := len5 hl
  have hc' : l = [c0, c1, c2, c3, c4] := hc
  subst hc'
  obtain ⟨nm, rfl, h0⟩ := f_str (hf 0 _ rfl) (by rw [hx]; simp) (c := c0) rfl
  obtain ⟨mx, rfl, _, _⟩ := f_int (hf 1 _ rfl) (by rw [hx]; simp) (c := c1) rfl
  obtain ⟨ttl, rfl, _, _⟩ := f_int (hf 2 _ rfl) (by rw [hx]; simp) (c := c2) rfl
  obtain ⟨att, rfl, _, _⟩ := f_int (hf 3 _ rfl) (by rw [hx]; simp) (c := c3) rfl
  obtain ⟨dd, rfl, h4⟩ := f_str (hf 4 _ rfl) (by rw [hx]; simp) (c := c4) rfl
  exact ⟨nm, dd, mx, ttl, att, rfl, h0, h4⟩
theorem open_entry {r : Reach} {b0 : Nat} {v : Value} {d : DataW H} {p : List MemPlace} (hv : Value.okWide Tryd.prog w r b0 28 v) (h : DataW.Trod enc Tryd.prog w base (fun _ => true) held 28 v d p) :
    ∃ (num arr eatt : Int) (t q : ByteArray) (lv : Int) (rt : Bool) (pr ex : Int) (fr : ByteArray) (sq : Int) (A : Option Addr) (n c : Nat),
      v = .agg #[.int .i64 num, .int .i64 arr, .int .i64 eatt, .string t, .string q, .int .i64 lv, .bool rt, .int .i64 pr, .int .i64 ex, .string fr, .int .i64 sq, .slice A n c] := by
  obtain ⟨cs, rfl, _⟩ := okWide_struct Tryd.underlying28 hv
  obtain ⟨fuel, ht⟩ := h
  obtain ⟨xs, n, _, _, hl, hx, hf⟩ := DataW.trod_struct Tryd.underlying28 ht
  have h12 : Tryd.prog.cellsOf 28 = 12 := by kernel_rfl
  have h9 : Tryd.prog.cellsOf 26 = 9 := by kernel_rfl
  rw [h12] at hl
  obtain ⟨l⟩ := cs
  obtain ⟨x0, x1, x2, c0, c1, c2, c3, c4, c5, c6, c7, c8, hc⟩ := len12 hl
  have hc' : l = [x0, x1, x2, c0, c1, c2, c3, c4, c5, c6, c7, c8] := hc
  subst hc'
  obtain ⟨num, rfl, _, _⟩ := f_int (hf 0 _ rfl) (by rw [hx]; simp) (c := x0) rfl
  obtain ⟨arr, rfl, _, _⟩ := f_int (hf 1 _ rfl) (by rw [hx]; simp) (c := x1) rfl
  obtain ⟨eatt, rfl, _, _⟩ := f_int (hf 2 _ rfl) (by rw [hx]; simp) (c := x2) rfl
  have h3 : DataW.trod enc Tryd.prog w base (fun _ => true) held n 26 (List.take (Tryd.prog.cellsOf 26) [c0, c1, c2, c3, c4, c5, c6, c7, c8]) = xs[3]? := hf 3 _ rfl
  rw [h9, List.getElem?_eq_getElem (by rw [hx]; simp)] at h3
  obtain ⟨t, q, lv, rt, pr, ex, fr, sq, A, cap, pl, he, _⟩ := open_msg h3
  have he' : [c0, c1, c2, c3, c4, c5, c6, c7, c8] = [.string t, .string q, .int .i64 lv, .bool rt, .int .i64 pr, .int .i64 ex, .string fr, .int .i64 sq, .slice A pl.length cap] := he
  simp only [List.cons.injEq, and_true] at he'
  obtain ⟨rfl, rfl, rfl, rfl, rfl, rfl, rfl, rfl, rfl⟩ := he'
  exact ⟨num, arr, eatt, t, q, lv, rt, pr, ex, fr, sq, A, pl.length, cap, rfl⟩
end

theorem reasons_lifted (os : Os) (started : os.Started) (H : Type) (enc : TypeId × Value → H) :
    ReturnsInHanded {} Tryd.checked os 3 .any (fun w args => (Rows.deadReasonsSpec.pre enc Tryd.prog Tryd.f3 [] false w args ∧ laidMetH Tryd.prog laidL w) ∧ sizedMet enc Tryd.prog Tryd.f3 (OpenSpec.ofChange Rows.deadReasonsSpec) false w args)
      (Rows.deadReasonsSpec.post enc Tryd.prog Tryd.f3 false true false false) := by
  refine returns_row (C := Tryd.checked) (X := fun w _ => laidMetH Tryd.prog laidL w) (fun _ _ _ hh h => h.of_heap hh) ownK started (by kernel_rfl) Tryd.func3
    (ChangeSpec.witness_shaped (enc := enc) (C := Tryd.checked) (os := os) (X := fun w _ => laidMetH Tryd.prog laidL w) false (World.laidAll Tryd.prog os laidL)
      #[.agg #[.string ⟨#[]⟩, .int .i64 0, .int .i64 0, .int .i64 0, .string ⟨#[]⟩], .agg #[.int .i64 0, .int .i64 0, .int .i64 0, .string ⟨#[]⟩, .string ⟨#[]⟩, .int .i64 0, .bool false, .int .i64 0, .int .i64 0, .string ⟨#[]⟩, .int .i64 0, .slice none 0 0], .int .i64 0] 8 (World.laidAll_os _ _ _)
      (World.shaped_of_ZipB (by kernel_rfl) (by kernel_rfl)) (by kernel_rfl) (by kernel_rfl) (by kernel_rfl)
      (by rw [MakeChecks.laidMetH_plain _ _ _ (by kernel_rfl)]; exact laidMet_laidAll _ (by kernel_rfl) (by kernel_rfl))) ?_
  intro W base args ds gs before hval0 hW _ _ hL hsh _
  have hval : ∀ (j : Nat) t v, Tryd.f3.params[j]? = some t → args[j]? = some v → Value.okWide Tryd.prog W .any base t v := hval0
  have hW' := hW
  obtain ⟨p, q, hA0, hV, rfl, _, _⟩ := hW
  have hA : DataW.TrodAll enc Tryd.prog W 0 (fun _ => true) true Tryd.f3.params.toList args.toList ds p := hA0
  rw [Tryd.params3] at hA hval
  obtain ⟨v0, v1, v2, d0, d1, d2, p0, p1, p2, rfl, rfl, rfl, h0, h1, h2⟩ := trodAll_three hA
  obtain ⟨rfl, rfl⟩ := trodVars_none hV
  simp only [List.append_nil] at hW'
  have hlt : ∀ x ∈ p0 ++ p1 ++ p2, x.block < W.heap.size := fun x hx => by simpa using hW'.lt x hx
  have k0 := h0
  have k1 := h1
  have k2 := h2
  obtain ⟨nm, dd, mx, ttl, att, rfl, hs0, hs4⟩ := open_spec (hval 0 23 v0 rfl rfl) h0
  obtain ⟨num, arr, eatt, t, q, lv, rt, pr, ex, fr, sq, A, n, c, rfl⟩ := open_entry (hval 1 28 v1 rfl rfl) h1
  obtain ⟨x, rfl, rfl, rfl, wx⟩ := open_int Tryd.underlying3 (hval 2 3 v2 rfl rfl) h2
  refine (law_Reasons nm dd mx ttl att num arr eatt t q lv rt pr ex fr sq A n c x W hs0 hs4 (glob_of hL hsh)).mono fun e W' ⟨he, hb⟩ => ?_
  subst he
  exact ⟨_, rfl, _, _, _, [], _, [], hW', trodAll_mk1 (shut_bool Tryd.underlying4 _),
    trodAll_mk3 (Below.trod laidOutP (by kernel_rfl) (of_decide_eq_true (by kernel_rfl)) k0 hb (fun x hx => hlt x (by simp [hx]))) (Below.trod laidOutP (by kernel_rfl) (of_decide_eq_true (by kernel_rfl)) k1 hb (fun x hx => hlt x (by simp [hx]))) (shut_int Tryd.underlying3 wx), rfl, hb.frame _, fun h => by cases h⟩

theorem reasons_holds : Rows.DeadReasonsSaid :=
  OpenClaim.holds_of_wide 3 Tryd.f3 rfl rfl rfl rfl rfl rfl rfl ⟨rfl, rfl, rfl, rfl, rfl⟩ rfl rfl rfl rfl rfl (by kernel_rfl) Tryd.func3 (by kernel_rfl)
    (of_decide_eq_true (by kernel_rfl)) (by unfold Func.isWrapper; first | (rw [if_pos (by decide +kernel)]; kernel_rfl) | (rw [if_neg (by decide +kernel)]; exact ⟨rfl, rfl⟩))
    (fun os started H enc _ => reasons_lifted os started H enc)
theorem deadReasons_card : Rows.DeadReasonsCardSaid :=
  Claim7.holds_tied_plain_at .later [] [.data, .data, .data, .data, .pinned] true (true, "051238366447c75d051f62f4495769872f15aa9cd49ebad953a1429d474d92da") false reasons_holds (fun _ h => by cases h) (by kernel_rfl) (fun _ h => by cases h) deadReasons_row_tie rfl ⟨rfl, rfl⟩ (by kernel_rfl) rfl
    (fun f fn hf hfn => by
      obtain rfl : f = 3 := Option.some.inj ((show Tryd.prog.funcNamed "broker/brokerlaw28.DeadReasons" = some 3 by kernel_rfl).symm.trans hf) |>.symm
      obtain rfl : fn = Tryd.f3 := (Option.some.inj (Tryd.func3.symm.trans hfn)).symm
      exact ⟨by kernel_rfl, fun j t ht => by
        rw [Tryd.params3] at ht
        have hm : t ∈ [23, 28, 3] := by simpa using Array.mem_of_getElem? ht
        have hall : ([23, 28, 3].all fun u => !Tryd.prog.wantsStandIn u) = true := by kernel_rfl
        exact (show Tryd.prog.wantsStandIn t = false by simpa using List.all_eq_true.1 hall t hm)⟩)
    (by kernel_rfl)
end Go.Proofs.YthilbmdpbmkakaaDoor
