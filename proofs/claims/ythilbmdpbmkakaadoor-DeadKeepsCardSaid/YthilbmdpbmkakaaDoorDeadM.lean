/- Chapter 28: the laws of marks and ends. -/
import Derived.Test.YthilbmdpbmkakaaDoorDeadL
import Derived.Test.YthilbmdpbmkakaaDoorDeadJ
set_option linter.unusedVariables false
set_option linter.unusedSimpArgs false
namespace Go.Proofs.YthilbmdpbmkakaaDoor
open Go Go.RowKit

def fitsB (q t p : ByteArray) (lv pr ex : Int) (fr : ByteArray) (sq : Int) (l : List Pr) (reason : Int) : Bool :=
  nameB q.data.toList && (checkE t p lv pr ex fr sq l == 0) && decide (1 ≤ reason) && decide (reason ≤ 4)
set_option maxRecDepth 100000 in
set_option maxHeartbeats 1600000 in
theorem law_fits (q t p : ByteArray) (lv : Int) (rt : Bool) (pr ex : Int) (fr : ByteArray) (sq : Int) (A : Option Addr) (c : Nat) (l : List Pr) (reason : Int) (w : World)
    (hq : q.size ≤ maxLen) (ht : t.size ≤ maxLen) (hp : p.size ≤ maxLen) (hfr : fr.size ≤ maxLen) (hl : l.length ≤ maxLen) (hf : PrFit l) (hr : Rd encP 2 w A l) :
    Calls Tryd.prog 18 #[.string q, .agg #[.string t, .string p, .int .i64 lv, .bool rt, .int .i64 pr, .int .i64 ex, .string fr, .int .i64 sq, .slice A l.length c], .int .i64 reason] w
      fun e w' => e = .returned (.bool (fitsB q t p lv pr ex fr sq l reason)) ∧ Ext w w' := by
  have HRd := Lib.hid hr; clear hr
  have HF := Lib.hid hf; clear hf
  have HD : Hid (fitsB q t p lv pr ex fr sq l reason = (nameB q.data.toList && (checkE t p lv pr ex fr sq l == 0) && decide (1 ≤ reason) && decide (reason ≤ 4))) := Lib.hid rfl
  generalize fitsB q t p lv pr ex fr sq l reason = F at *
  have HC := fun (W : World) (hW : Ext w W) => ref_Check t p lv rt pr ex fr sq A c l W ht hp hfr hl HF.out (HRd.out.ext hW)
  have HCh := Lib.hid HC; clear HC
  generalize checkE t p lv pr ex fr sq l = ce at *
  cases hn : nameB q.data.toList with
  | false =>
    go_enter Tryd.func18, Tryd.ntmps18
    go_wp2_with (first | (go_at_call 25; refine (ref_Name _ _ hq).mono ?_; rintro e w1 ⟨rfl, rfl⟩))
    go_ret
    exact ⟨ret_bool (by rw [HD.out, hn]; rfl), (Ext.refl w).alloc _⟩
  | true =>
    cases hc : (ce == 0) with
    | false =>
      go_enter Tryd.func18, Tryd.ntmps18
      go_wp2_with (first
        | (go_at_call 25; refine (ref_Name _ _ hq).mono ?_; rintro e w1 ⟨rfl, rfl⟩)
        | (go_at_call 35; refine (HCh.out _ ((Ext.refl w).alloc _)).mono ?_; rintro e w1 ⟨rfl, hE⟩; have HX := Lib.hid (((Ext.refl w).alloc _).trans hE); clear hE))
      go_ret
      exact ⟨ret_bool (by rw [HD.out, hn, hc]; rfl), HX.out⟩
    | true =>
      by_cases h1 : 1 ≤ reason
      · have h1' : decide (1 ≤ reason) = true := by simpa using h1
        go_enter Tryd.func18, Tryd.ntmps18
        go_wp2_with (first
          | (go_at_call 25; refine (ref_Name _ _ hq).mono ?_; rintro e w1 ⟨rfl, rfl⟩)
          | (go_at_call 35; refine (HCh.out _ ((Ext.refl w).alloc _)).mono ?_; rintro e w1 ⟨rfl, hE⟩; have HX := Lib.hid (((Ext.refl w).alloc _).trans hE); clear hE))
        all_goals (go_ret; exact ⟨ret_bool (by rw [HD.out, hn, hc]; simp [*]; try omega), HX.out⟩)
      · have h1' : decide (1 ≤ reason) = false := by simpa using h1
        go_enter Tryd.func18, Tryd.ntmps18
        go_wp2_with (first
          | (go_at_call 25; refine (ref_Name _ _ hq).mono ?_; rintro e w1 ⟨rfl, rfl⟩)
          | (go_at_call 35; refine (HCh.out _ ((Ext.refl w).alloc _)).mono ?_; rintro e w1 ⟨rfl, hE⟩; have HX := Lib.hid (((Ext.refl w).alloc _).trans hE); clear hE))
        all_goals (go_ret; exact ⟨ret_bool (by rw [HD.out, hn, hc]; simp [*]; try omega), HX.out⟩)
theorem name_size {s : ByteArray} (h : nameB s.data.toList = true) : s.size ≤ 16 := by
  simp only [nameB, Bool.and_eq_true, decide_eq_true_eq] at h
  have := h.1.1.2
  rwa [size_data] at this
theorem check_ok {t p : ByteArray} {lv pr ex : Int} {fr : ByteArray} {sq : Int} {l : List Pr} (h : checkE t p lv pr ex fr sq l = 0) : propsE l = 0 := by
  unfold checkE at h
  repeat' split at h
  all_goals first
    | omega
    | exact h
theorem fits_true {q t p : ByteArray} {lv pr ex : Int} {fr : ByteArray} {sq : Int} {l : List Pr} {reason : Int} (h : fitsB q t p lv pr ex fr sq l reason = true) :
    nameB q.data.toList = true ∧ checkE t p lv pr ex fr sq l = 0 ∧ 1 ≤ reason ∧ reason ≤ 4 ∧ q.size ≤ 16 ∧ AscS l ∧ (∀ p ∈ l, keyB p.1.data.toList = true ∧ p.2.size ≤ 160) ∧ l.length ≤ 8 := by
  simp only [fitsB, Bool.and_eq_true, decide_eq_true_eq, beq_iff_eq] at h
  obtain ⟨⟨⟨h1, h2⟩, h3⟩, h4⟩ := h
  obtain ⟨h5, h6, h7⟩ := propsE_ok (check_ok h2)
  exact ⟨h1, h2, h3, h4, name_size h1, h5, h6, h7⟩
def MarkPostV (q : ByteArray) (l : List Pr) (reason : Int) (t p : ByteArray) (lv : Int) (rt : Bool) (pr : Int) (fr : ByteArray) (sq : Int) (w : World) (e : Ending) (w' : World) : Prop :=
  ∃ (A : Option Addr) (c : Nat), e = .returned (.agg #[.string t, .string p, .int .i64 lv, .bool rt, .int .i64 pr, .int .i64 0, .string fr, .int .i64 sq, .slice A (outL q l reason).length c]) ∧ Rd encP 2 w' A (outL q l reason) ∧ (∀ a, A = some a → w.heap.size ≤ a.block) ∧ Ext w w'
/-- dead.Mark, at a sorted list. -/
theorem dead_Mark_v (q t p : ByteArray) (lv : Int) (rt : Bool) (pr ex : Int) (fr : ByteArray) (sq : Int) (A : Option Addr) (c : Nat) (l : List Pr) (reason : Int) (w : World)
    (hl : l.length ≤ maxLen) (hf : PrFit l) (hr : Rd encP 2 w A l) (hg : Glob w) (hr0 : -9223372036854775808 ≤ reason) (hr1 : reason ≤ 9223372036854775807) (hq : q.size ≤ 4096) (hs : AscS l) :
    Calls Tryd.prog 19 #[.string q, .agg #[.string t, .string p, .int .i64 lv, .bool rt, .int .i64 pr, .int .i64 ex, .string fr, .int .i64 sq, .slice A l.length c], .int .i64 reason] w (MarkPostV q l reason t p lv rt pr fr sq w) :=
  (dead_Mark q t p lv rt pr ex fr sq A c l reason w hl hf hr hg hr0 hr1 hq).mono fun e w' ⟨out, A', c', he, hp, ha, hrd, hfar, hE⟩ => by
    obtain rfl := mark_out hs hp ha
    exact ⟨A', c', he, hrd, hfar, hE⟩
theorem sameM_refl (t p : ByteArray) (lv : Int) (rt : Bool) (pr ex : Int) (fr : ByteArray) (sq : Int) (l : List Pr) : sameM t p lv rt pr ex fr sq l t p lv rt pr ex fr sq l = true := by
  have : sameL l l = true := (sameL_iff l l).2 rfl
  simp [sameM, this]

set_option maxRecDepth 100000 in
set_option maxHeartbeats 3200000 in
theorem law_Marks (q t p : ByteArray) (lv : Int) (rt : Bool) (pr ex : Int) (fr : ByteArray) (sq : Int) (A : Option Addr) (c : Nat) (l : List Pr) (reason : Int) (w : World)
    (hq : q.size ≤ maxLen) (ht : t.size ≤ maxLen) (hp : p.size ≤ maxLen) (hfr : fr.size ≤ maxLen) (hl : l.length ≤ maxLen) (hf : PrFit l) (hr : Rd encP 2 w A l) (hg : Glob w) :
    Calls Tryd.prog 7 #[.string q, .agg #[.string t, .string p, .int .i64 lv, .bool rt, .int .i64 pr, .int .i64 ex, .string fr, .int .i64 sq, .slice A l.length c], .int .i64 reason] w
      fun e w' => e = .returned (.bool true) ∧ Ext w w' := by
  have HRd := Lib.hid hr; clear hr
  have HF := Lib.hid hf; clear hf
  have HG := Lib.hid hg; clear hg
  have HFT := Lib.hid (fun h => fits_true (q := q) (t := t) (p := p) (lv := lv) (pr := pr) (ex := ex) (fr := fr) (sq := sq) (l := l) (reason := reason) h)
  have HFc := Lib.hid (fun (W : World) (hW : Ext w W) => law_fits q t p lv rt pr ex fr sq A c l reason W hq ht hp hfr hl HF.out (HRd.out.ext hW))
  generalize fitsB q t p lv pr ex fr sq l reason = F at *
  cases F with
  | false =>
    go_enter Tryd.func7, Tryd.ntmps7
    go_wp2_with (first
      | (go_at_call 18; refine (HFc.out _ ((Ext.refl w).alloc _)).mono ?_; rintro e w1 ⟨rfl, hE⟩; have HX := Lib.hid (((Ext.refl w).alloc _).trans hE); clear hE)
      | (go_at_call 9; refine (example_holds _ (HG.out.ext HX.out)).mono ?_; rintro e w2 ⟨rfl, hE⟩; have HX2 := Lib.hid (HX.out.trans hE); clear hE))
    go_ret
    exact ⟨rfl, HX2.out⟩
  | true =>
    obtain ⟨hn, _, h1, h4, hq16, hs, _, _⟩ := HFT.out rfl
    have HS0 := Lib.hid hs; clear hs hn
    have HW : Hid (∀ W, Ext (w.alloc (msgC t p lv rt pr ex fr sq (.slice A l.length c))) W → Ext w W) := Lib.hid (fun W h => ((Ext.refl w).alloc _).trans h)
    have HSM := Lib.hid (sameM_refl t p lv rt pr 0 fr sq (outL q l reason))
    have hol := outL_len q l reason
    have holm : (outL q l reason).length ≤ maxLen := by unfold maxLen; omega
    have HP : Hid (RefMarkPost q l reason t p lv rt pr fr sq = fun w e w' => ∃ (A : Option Addr) (c : Nat), e = .returned (.agg #[.string t, .string p, .int .i64 lv, .bool rt, .int .i64 pr, .int .i64 0, .string fr, .int .i64 sq, .slice A (outL q l reason).length c]) ∧ Rd encP 2 w' A (outL q l reason) ∧ Ext w w') := Lib.hid rfl
    have HM1 := Lib.hid (fun (W : World) (hW : Ext w W) => dead_Mark_v q t p lv rt pr ex fr sq A c l reason W hl HF.out (HRd.out.ext hW) (HG.out.ext hW) (by omega) (by omega) (by omega) HS0.out)
    have HM2 := Lib.hid (fun (W : World) (hW : Ext w W) => ref_Mark q t p lv rt pr ex fr sq A c l reason W hl HF.out (HRd.out.ext hW) (HG.out.ext hW) (by omega) (by omega) (by omega))
    have HP1 : Hid (MarkPostV q l reason t p lv rt pr fr sq = fun w e w' => ∃ (A : Option Addr) (c : Nat), e = .returned (.agg #[.string t, .string p, .int .i64 lv, .bool rt, .int .i64 pr, .int .i64 0, .string fr, .int .i64 sq, .slice A (outL q l reason).length c]) ∧ Rd encP 2 w' A (outL q l reason) ∧ (∀ a, A = some a → w.heap.size ≤ a.block) ∧ Ext w w') := Lib.hid rfl
    rw [HP1.out] at HM1
    rw [HP.out] at HM2
    generalize outL q l reason = O at *
    go_enter Tryd.func7, Tryd.ntmps7
    go_upto_region 3 with (first
      | (go_at_call 18; refine (HFc.out _ ((Ext.refl w).alloc _)).mono ?_; rintro e w1 ⟨rfl, hE⟩; have hc1 := hE.cells; have hz1 : w.heap.size < w1.heap.size := (by have := hE.size; (try simp at this); omega); have HE1 := Lib.hid hE; clear hE))
    have HY := Lib.hid (HE1.out.trans (Ext.refl _).drew)
    have HS := Lib.hid (msg_S _ _ _ _ _ _ _ _ _ _ _ HY.out)
    go_region_held3 (fun wx => Ext (w.alloc (msgC t p lv rt pr ex fr sq (.slice A l.length c))) wx ∧ wx.cell? ⟨w.heap.size, 0, none⟩ = some (.string t) ∧ wx.cell? ⟨w.heap.size, 1, none⟩ = some (.string p) ∧ wx.cell? ⟨w.heap.size, 2, none⟩ = some (.int .i64 lv) ∧ wx.cell? ⟨w.heap.size, 3, none⟩ = some (.bool rt) ∧ wx.cell? ⟨w.heap.size, 4, none⟩ = some (.int .i64 pr) ∧ wx.cell? ⟨w.heap.size, 5, none⟩ = some (.int .i64 ex) ∧ wx.cell? ⟨w.heap.size, 6, none⟩ = some (.string fr) ∧ wx.cell? ⟨w.heap.size, 7, none⟩ = some (.int .i64 sq) ∧ wx.cell? ⟨w.heap.size, 8, none⟩ = some (.slice A l.length c)) (exact HS.out)
      (first
        | (go_at_call 19; ((with_reducible refine (HM1.out _ (HW.out _ HY.out)).mono ?_); rintro e w3 ⟨A1, c1, rfl, hR, _, hE⟩; have HR1 := Lib.hid hR; have HY := Lib.hid (HY.out.trans hE); have HS := Lib.hid (msg_S _ _ _ _ _ _ _ _ _ _ _ HY.out); clear hE hR))
        | (go_at_call 24; ((with_reducible refine (HM2.out _ (HW.out _ HY.out)).mono ?_); rintro e w3 ⟨A2, c2, rfl, hR, hE⟩; have HR2 := Lib.hid hR; have HR1 := Lib.hid (HR1.out.ext hE); have HY := Lib.hid (HY.out.trans hE); have HS := Lib.hid (msg_S _ _ _ _ _ _ _ _ _ _ _ HY.out); clear hE hR))
        | (go_at_call 23; ((with_reducible refine (ref_Same t p lv rt pr 0 fr sq A1 c1 O t p lv rt pr 0 fr sq A2 c2 O _ holm holm HR1.out HR2.out).mono ?_); rw [HSM.out]; rintro e w3 ⟨rfl, hE⟩; have HY := Lib.hid (HY.out.trans hE); have HS := Lib.hid (msg_S _ _ _ _ _ _ _ _ _ _ _ HY.out); clear hE))
        | (go_at_call 9; ((with_reducible refine (example_holds _ (HG.out.ext (HW.out _ HY.out))).mono ?_); rintro e w3 ⟨rfl, hE⟩; have HY := Lib.hid (HY.out.trans hE); have HS := Lib.hid (msg_S _ _ _ _ _ _ _ _ _ _ _ HY.out); clear hE)))
    all_goals (go_wp2_with fail)
    all_goals go_ret
    all_goals exact ⟨ret_bool (by simp), HW.out _ HY.out⟩
end Go.Proofs.YthilbmdpbmkakaaDoor
