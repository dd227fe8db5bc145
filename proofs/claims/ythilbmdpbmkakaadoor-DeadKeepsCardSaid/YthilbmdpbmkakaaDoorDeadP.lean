/- Chapter 28: the law of what a mark keeps. -/
import Derived.Test.YthilbmdpbmkakaaDoorDeadO
set_option linter.unusedVariables false
set_option linter.unusedSimpArgs false
namespace Go.Proofs.YthilbmdpbmkakaaDoor
open Go Go.RowKit

theorem check_mark {t p : ByteArray} {lv pr ex : Int} {fr : ByteArray} {sq : Int} {l m : List Pr} (h : checkE t p lv pr ex fr sq l = 0) (hm : propsE m = 0) : checkE t p lv pr 0 fr sq m = 0 := by
  have hz : (!inB 0 1099511627776) = false := by decide
  unfold checkE at h ⊢
  rw [hz]
  repeat' split at h
  all_goals first
    | omega
    | (simp_all; done)
abbrev msgW (t p : ByteArray) (lv : Int) (rt : Bool) (pr ex : Int) (fr : ByteArray) (sq : Int) (s : Value) : Value := .agg #[.string t, .string p, .int .i64 lv, .bool rt, .int .i64 pr, .int .i64 ex, .string fr, .int .i64 sq, s]
theorem Rd.take {α : Type} {enc : α → List Value} {k : Nat} {w : World} {A : Option Addr} {l : List α} (h : Rd enc k w A l) (n : Nat) : Rd enc k w A (l.take n) := fun hl => by
  have hl' : 0 < l.length := by simp at hl; omega
  obtain ⟨b, off, hA, hb, hc⟩ := h hl'
  refine ⟨b, off, hA, hb, fun j hj i u hu => ?_⟩
  have hj' : j < l.length := by simp at hj; omega
  exact hc j hj' i u (by rwa [List.getElem_take] at hu)
set_option maxRecDepth 100000 in
set_option maxHeartbeats 6400000 in
theorem law_Keeps (q t p : ByteArray) (lv : Int) (rt : Bool) (pr ex : Int) (fr : ByteArray) (sq : Int) (A : Option Addr) (c : Nat) (l : List Pr) (reason : Int) (w : World)
    (hq : q.size ≤ maxLen) (ht : t.size ≤ maxLen) (hp : p.size ≤ maxLen) (hfr : fr.size ≤ maxLen) (hl : l.length ≤ maxLen) (hf : PrFit l) (hr : Rd encP 2 w A l) (hg : Glob w) :
    Calls Tryd.prog 6 #[.string q, .agg #[.string t, .string p, .int .i64 lv, .bool rt, .int .i64 pr, .int .i64 ex, .string fr, .int .i64 sq, .slice A l.length c], .int .i64 reason] w
      fun e w' => e = .returned (.bool true) ∧ Ext w w' := by
  have HRd := Lib.hid hr; clear hr
  have HF := Lib.hid hf; clear hf
  have HG := Lib.hid hg; clear hg
  have HFT := Lib.hid (fun h => fits_true (q := q) (t := t) (p := p) (lv := lv) (pr := pr) (ex := ex) (fr := fr) (sq := sq) (l := l) (reason := reason) h)
  have HFc := Lib.hid (fun (W : World) (hW : Ext w W) => law_fits q t p lv rt pr ex fr sq A c l reason W hq ht hp hfr hl HF.out (HRd.out.ext hW))
  generalize fitsB q t p lv pr ex fr sq l reason = F at *
  cases F with
  | false =>
    go_enter Tryd.func6, Tryd.ntmps6
    go_wp2_with (first
      | (go_at_call 18; refine (HFc.out _ ((Ext.refl w).alloc _)).mono ?_; rintro e w1 ⟨rfl, hE⟩; have HX := Lib.hid (((Ext.refl w).alloc _).trans hE); clear hE)
      | (go_at_call 9; refine (example_holds _ (HG.out.ext HX.out)).mono ?_; rintro e w2 ⟨rfl, hE⟩; have HX2 := Lib.hid (HX.out.trans hE); clear hE))
    go_ret
    exact ⟨rfl, HX2.out⟩
  | true =>
    obtain ⟨hn, hck, h1, h4, hq16, hs, hkv, hl8⟩ := HFT.out rfl
    have hq4 : q.size ≤ 4096 := by omega
    have hr0 : -9223372036854775808 ≤ reason := by omega
    have hr1 : reason ≤ 9223372036854775807 := by omega
    have hOl := outL_len q l reason
    have hOlm : (outL q l reason).length ≤ maxLen := by unfold maxLen; omega
    have hOf := outL_fit q l reason HF.out hq16 h1 h4
    have hOs := outL_strict hs q reason
    have hb1 := bare_le l
    have hb2 := bareL_out hs q reason
    have hb3 := outL_again hs q reason
    -- the contracts
    have HM := Lib.hid (fun (W : World) (hW : Ext w W) => dead_Mark_v q t p lv rt pr ex fr sq A c l reason W hl HF.out (HRd.out.ext hW) (HG.out.ext hW) hr0 hr1 hq4 hs)
    have HM2 := Lib.hid (fun (W : World) (A' : Option Addr) (c' : Nat) (hW : Ext w W) (hrd : Rd encP 2 W A' (outL q l reason)) => dead_Mark_v q t p lv rt pr 0 fr sq A' c' (outL q l reason) reason W hOlm hOf hrd (HG.out.ext hW) hr0 hr1 hq4 hOs)
    have HFr : Hid (∀ (W : World) (A' : Option Addr) (c' : Nat), Ext w W → Rd encP 2 W A' (outL q l reason) → Calls Tryd.prog 12 #[msgW t p lv rt pr 0 fr sq (.slice A' (outL q l reason).length c')] W fun e w' => e = .returned (.tuple #[.string q, .int .i64 reason]) ∧ Ext W w') := Lib.hid (fun W A' c' hW hrd => by
      have hd := died_of (q := q) (reason := reason) (outL_dis hs q reason) (outL_mem2 q l reason)
      have hfrom := from_of q reason hn h1 h4
      have hc := dead_From t p lv rt pr 0 fr sq A' c' (outL q l reason) W hOlm (by
        rw [hd]
        have := strI_small reason (by omega) (by omega)
        have e : (⟨#[32]⟩ : ByteArray).size = 1 := rfl
        rw [ByteArray.size_append, ByteArray.size_append, e]
        omega) hrd (HG.out.ext hW)
      rw [hd, hfrom.1, hfrom.2] at hc
      exact hc)
    have HCk : Hid (∀ (W : World) (A' : Option Addr) (c' : Nat), Rd encP 2 W A' (outL q l reason) → Calls Tryd.prog 20 #[msgW t p lv rt pr 0 fr sq (.slice A' (outL q l reason).length c')] W fun e w' => e = .returned (.int .i64 0) ∧ Ext W w') := Lib.hid (fun W A' c' hrd => by
      have hc := message_Check t p lv rt pr 0 fr sq A' c' (outL q l reason) W ht hp hfr hOlm hOf hrd
      rw [check_mark hck (outL_valid hs hkv q reason hq16 h1 h4)] at hc
      exact hc)
    have HDx : Hid (∀ (W : World) (A' : Option Addr) (c' : Nat), Rd encP 2 W A' (outL q l reason) → Calls Tryd.prog 14 #[msgW t p lv rt pr 0 fr sq (.slice A' (outL q l reason).length c')] W fun e w' => e = .returned (.int .i64 (min (deathsE l + 1) 1099511627776)) ∧ Ext W w') := Lib.hid (fun W A' c' hrd => by
      have hc := dead_Deaths t p lv rt pr 0 fr sq A' c' (outL q l reason) W hOlm hOf hrd
      rw [outL_deaths hs q reason] at hc
      exact hc)
    have HDm := Lib.hid (fun (W : World) (hW : Ext w W) => dead_Deaths t p lv rt pr ex fr sq A c l W hl HF.out (HRd.out.ext hW))
    have HBm := Lib.hid (fun (W : World) (hW : Ext w W) => law_bare A c l W (by omega) (HRd.out.ext hW))
    have HBx := Lib.hid (fun (W : World) (A' : Option Addr) (c' : Nat) (hrd : Rd encP 2 W A' (outL q l reason)) => law_bare A' c' (outL q l reason) W (by omega) hrd)
    have hYl := outL_len q (outL q l reason) reason
    have HBy : Hid (∀ (W : World) (A' : Option Addr) (c' : Nat), Rd encP 2 W A' (outL q (outL q l reason) reason) → Calls Tryd.prog 21 #[.slice A' (outL q (outL q l reason) reason).length c'] W fun e w' => ∃ (A2 : Option Addr) (c2 : Nat), e = .returned (.slice A2 (bareL (outL q l reason)).length c2) ∧ (bareL (outL q l reason)).length ≤ c2 ∧ Rd encP 2 w' A2 (bareL (outL q l reason)) ∧ Ext W w') := Lib.hid (fun W A' c' hrd => by
      have hc := law_bare A' c' (outL q (outL q l reason) reason) W (by omega) hrd
      rw [hb3] at hc
      exact hc)
    have HSM := Lib.hid (sameM_refl t p lv rt pr ex fr sq l)
    have HP0 : Hid (MarkPostV q l reason t p lv rt pr fr sq = fun w e w' => ∃ (A : Option Addr) (c : Nat), e = .returned (.agg #[.string t, .string p, .int .i64 lv, .bool rt, .int .i64 pr, .int .i64 0, .string fr, .int .i64 sq, .slice A (outL q l reason).length c]) ∧ Rd encP 2 w' A (outL q l reason) ∧ (∀ a, A = some a → w.heap.size ≤ a.block) ∧ Ext w w') := Lib.hid rfl
    have HP1 : Hid (MarkPostV q (outL q l reason) reason t p lv rt pr fr sq = fun w e w' => ∃ (A : Option Addr) (c : Nat), e = .returned (.agg #[.string t, .string p, .int .i64 lv, .bool rt, .int .i64 pr, .int .i64 0, .string fr, .int .i64 sq, .slice A (outL q (outL q l reason) reason).length c]) ∧ Rd encP 2 w' A (outL q (outL q l reason) reason) ∧ (∀ a, A = some a → w.heap.size ≤ a.block) ∧ Ext w w') := Lib.hid rfl
    rw [HP0.out] at HM
    rw [HP1.out] at HM2
    have HSL : Hid (sameL (bareL (outL q l reason)) ((bareL l).take 6) = true) := Lib.hid ((sameL_iff _ _).2 hb2)
    have HSB : Hid (sameL (bareL (outL q l reason)) (bareL (outL q l reason)) = true) := Lib.hid ((sameL_iff _ _).2 rfl)
    have hbl : (bareL (outL q l reason)).length ≤ 6 := by rw [hb2]; simp; omega
    have HEQ : Hid (∀ (W : World) (Ax Ab : Option Addr) (cx cb k : Nat), k = ((bareL l).take 6).length → Rd encP 2 W Ax (bareL (outL q l reason)) → Rd encP 2 W Ab (bareL l) → Calls Tryd.prog 22 #[.slice Ax (bareL (outL q l reason)).length cx, .slice Ab k cb] W fun e w' => e = .returned (.bool true) ∧ Ext W w') := Lib.hid (fun W Ax Ab cx cb k hk h5 h6 => by
      subst hk
      have hc := slices_EqualP Ax Ab cx cb (bareL (outL q l reason)) ((bareL l).take 6) W (by rw [hb2]; unfold maxLen; simp; omega) (by unfold maxLen; simp; omega) h5 (h6.take 6)
      rw [(sameL_iff _ _).2 hb2] at hc
      exact hc)
    have HEQ2 : Hid (∀ (W : World) (Ax Ab : Option Addr) (cx cb : Nat), Rd encP 2 W Ax (bareL (outL q l reason)) → Rd encP 2 W Ab (bareL (outL q l reason)) → Calls Tryd.prog 22 #[.slice Ax (bareL (outL q l reason)).length cx, .slice Ab (bareL (outL q l reason)).length cb] W fun e w' => e = .returned (.bool true) ∧ Ext W w') := Lib.hid (fun W Ax Ab cx cb h5 h6 => by
      have hc := slices_EqualP Ax Ab cx cb (bareL (outL q l reason)) (bareL (outL q l reason)) W (by rw [hb2]; unfold maxLen; simp; omega) (by rw [hb2]; unfold maxLen; simp; omega) h5 h6
      rw [(sameL_iff _ _).2 rfl] at hc
      exact hc)
    have HK6 : Hid (∀ k : Nat, ((bareL l).length ≤ 6 → k = (bareL l).length) → (6 < (bareL l).length → k = 6) → k = ((bareL l).take 6).length) := Lib.hid (fun k ha hb => by rw [List.length_take]; omega)
    have HSameM := Lib.hid (fun (W : World) (hrd : Rd encP 2 W A l) => ref_Same t p lv rt pr ex fr sq A c l t p lv rt pr ex fr sq A c l W hl hl hrd hrd)
    rw [HSM.out] at HSameM
    clear hb2 hb3 hOs hOf hck hkv hs HP0 HP1
    generalize bareL (outL q l reason) = BO at *
    obtain ⟨BL, hBL⟩ : ∃ BL, BL = bareL l := ⟨_, rfl⟩
    rw [← hBL] at HEQ HK6 HBm hb1
    clear hBL
    generalize outL q (outL q l reason) reason = Y at *
    generalize outL q l reason = O at *
    obtain ⟨hd0, hd1⟩ := deathsL_bd (getV l kDeaths).data.toList
    have hd : deathsL (getV l kDeaths).data.toList = deathsE l := rfl
    rw [hd] at hd0 hd1
    clear hd
    generalize deathsE l = d0 at *
    go_enter Tryd.func6, Tryd.ntmps6
    go_upto_region 5 with (first
      | (go_at_call 18; refine (HFc.out _ ((Ext.refl w).alloc _)).mono ?_; rintro e w1 ⟨rfl, hE⟩; have hc1 := hE.cells; have hz1 : w.heap.size < w1.heap.size := (by have := hE.size; (try simp at this); omega); have HE1 := Lib.hid hE; have HX1 := Lib.hid (((Ext.refl w).alloc _).trans hE); clear hE)
      | (go_at_call 19; refine (HM.out _ HX1.out).mono ?_; rintro e w2 ⟨A1, c1, rfl, hR, hfar, hE⟩; have hc2 := hE.cells; have hz2 : w.heap.size < w2.heap.size := (by have := hE.size; omega); have HR1 := Lib.hid hR; have HE2 := Lib.hid (HE1.out.trans hE); have HX2 := Lib.hid (HX1.out.trans hE); clear hE hR hfar)
      | (go_at_call 12; refine (HFr.out _ A1 c1 (HX2.out.alloc _) (HR1.out.ext ((Ext.refl _).alloc _))).mono ?_; rintro e w3 ⟨rfl, hE⟩; have hc3 := hE.cells; have hf3 := hE.frozens; have HE3 := Lib.hid hE; clear hE))
    have hzx : w.heap.size < w2.heap.size + 1 := by omega
    have hca := HE2.out.cells
    have HSf : Hid (∀ wx : World, Ext (w2.alloc (msgC t p lv rt pr 0 fr sq (.slice A1 O.length c1))) wx → Ext (w2.alloc (msgC t p lv rt pr 0 fr sq (.slice A1 O.length c1))) wx ∧ wx.cell? ⟨w.heap.size, 0, none⟩ = some (.string t) ∧ wx.cell? ⟨w.heap.size, 1, none⟩ = some (.string p) ∧ wx.cell? ⟨w.heap.size, 2, none⟩ = some (.int .i64 lv) ∧ wx.cell? ⟨w.heap.size, 3, none⟩ = some (.bool rt) ∧ wx.cell? ⟨w.heap.size, 4, none⟩ = some (.int .i64 pr) ∧ wx.cell? ⟨w.heap.size, 5, none⟩ = some (.int .i64 ex) ∧ wx.cell? ⟨w.heap.size, 6, none⟩ = some (.string fr) ∧ wx.cell? ⟨w.heap.size, 7, none⟩ = some (.int .i64 sq) ∧ wx.cell? ⟨w.heap.size, 8, none⟩ = some (.slice A l.length c) ∧ wx.cell? ⟨w2.heap.size, 0, none⟩ = some (.string t) ∧ wx.cell? ⟨w2.heap.size, 1, none⟩ = some (.string p) ∧ wx.cell? ⟨w2.heap.size, 2, none⟩ = some (.int .i64 lv) ∧ wx.cell? ⟨w2.heap.size, 3, none⟩ = some (.bool rt) ∧ wx.cell? ⟨w2.heap.size, 4, none⟩ = some (.int .i64 pr) ∧ wx.cell? ⟨w2.heap.size, 5, none⟩ = some (.int .i64 0) ∧ wx.cell? ⟨w2.heap.size, 6, none⟩ = some (.string fr) ∧ wx.cell? ⟨w2.heap.size, 7, none⟩ = some (.int .i64 sq) ∧ wx.cell? ⟨w2.heap.size, 8, none⟩ = some (.slice A1 O.length c1)) := Lib.hid (fun wx h => by
      have hcx := h.cells
      refine ⟨h, ?_, ?_, ?_, ?_, ?_, ?_, ?_, ?_, ?_, ?_, ?_, ?_, ?_, ?_, ?_, ?_, ?_, ?_⟩ <;> go_simp)
    have HWX : Hid (∀ wx : World, Ext (w2.alloc (msgC t p lv rt pr 0 fr sq (.slice A1 O.length c1))) wx → Ext w wx) := Lib.hid (fun wx h => (HX2.out.alloc _).trans h)
    have HRX : Hid (∀ wx : World, Ext (w2.alloc (msgC t p lv rt pr 0 fr sq (.slice A1 O.length c1))) wx → Rd encP 2 wx A1 O) := Lib.hid (fun wx h => HR1.out.ext (((Ext.refl _).alloc _).trans h))
    clear hca
    have HY := Lib.hid (HE3.out.trans (Ext.refl _).drew)
    have hwr : IntKind.i64.wrap (d0 + 1) = d0 + 1 := by rw [IntKind.wrap_i64]; omega
    have HS := Lib.hid (HSf.out _ HY.out)
    go_region_held3 (fun wx => Ext (w2.alloc (msgC t p lv rt pr 0 fr sq (.slice A1 O.length c1))) wx ∧ wx.cell? ⟨w.heap.size, 0, none⟩ = some (.string t) ∧ wx.cell? ⟨w.heap.size, 1, none⟩ = some (.string p) ∧ wx.cell? ⟨w.heap.size, 2, none⟩ = some (.int .i64 lv) ∧ wx.cell? ⟨w.heap.size, 3, none⟩ = some (.bool rt) ∧ wx.cell? ⟨w.heap.size, 4, none⟩ = some (.int .i64 pr) ∧ wx.cell? ⟨w.heap.size, 5, none⟩ = some (.int .i64 ex) ∧ wx.cell? ⟨w.heap.size, 6, none⟩ = some (.string fr) ∧ wx.cell? ⟨w.heap.size, 7, none⟩ = some (.int .i64 sq) ∧ wx.cell? ⟨w.heap.size, 8, none⟩ = some (.slice A l.length c) ∧ wx.cell? ⟨w2.heap.size, 0, none⟩ = some (.string t) ∧ wx.cell? ⟨w2.heap.size, 1, none⟩ = some (.string p) ∧ wx.cell? ⟨w2.heap.size, 2, none⟩ = some (.int .i64 lv) ∧ wx.cell? ⟨w2.heap.size, 3, none⟩ = some (.bool rt) ∧ wx.cell? ⟨w2.heap.size, 4, none⟩ = some (.int .i64 pr) ∧ wx.cell? ⟨w2.heap.size, 5, none⟩ = some (.int .i64 0) ∧ wx.cell? ⟨w2.heap.size, 6, none⟩ = some (.string fr) ∧ wx.cell? ⟨w2.heap.size, 7, none⟩ = some (.int .i64 sq) ∧ wx.cell? ⟨w2.heap.size, 8, none⟩ = some (.slice A1 O.length c1)) (exact HS.out)
      (first
        | (go_at_call 20; ((with_reducible refine (HCk.out _ A1 c1 (HRX.out _ HY.out)).mono ?_); rintro e w4 ⟨rfl, hE⟩; have HY := Lib.hid (HY.out.trans hE); have HS := Lib.hid (HSf.out _ HY.out); clear hE))
        | (go_at_call_of 14 A1; ((with_reducible refine (HDx.out _ A1 c1 (HRX.out _ HY.out)).mono ?_); rintro e w4 ⟨rfl, hE⟩; have HY := Lib.hid (HY.out.trans hE); have HS := Lib.hid (HSf.out _ HY.out); clear hE))
        | (go_at_call_of 14 A; ((with_reducible refine (HDm.out _ (HWX.out _ HY.out)).mono ?_); rintro e w4 ⟨rfl, hE⟩; have HY := Lib.hid (HY.out.trans hE); have HS := Lib.hid (HSf.out _ HY.out); clear hE)))
    go_wp2_with fail
    have HY := Lib.hid (HY.out.trans (Ext.refl _).drew)
    have HS := Lib.hid (HSf.out _ HY.out)
    go_region_held3 (fun wx => Ext (w2.alloc (msgC t p lv rt pr 0 fr sq (.slice A1 O.length c1))) wx ∧ wx.cell? ⟨w.heap.size, 0, none⟩ = some (.string t) ∧ wx.cell? ⟨w.heap.size, 1, none⟩ = some (.string p) ∧ wx.cell? ⟨w.heap.size, 2, none⟩ = some (.int .i64 lv) ∧ wx.cell? ⟨w.heap.size, 3, none⟩ = some (.bool rt) ∧ wx.cell? ⟨w.heap.size, 4, none⟩ = some (.int .i64 pr) ∧ wx.cell? ⟨w.heap.size, 5, none⟩ = some (.int .i64 ex) ∧ wx.cell? ⟨w.heap.size, 6, none⟩ = some (.string fr) ∧ wx.cell? ⟨w.heap.size, 7, none⟩ = some (.int .i64 sq) ∧ wx.cell? ⟨w.heap.size, 8, none⟩ = some (.slice A l.length c) ∧ wx.cell? ⟨w2.heap.size, 0, none⟩ = some (.string t) ∧ wx.cell? ⟨w2.heap.size, 1, none⟩ = some (.string p) ∧ wx.cell? ⟨w2.heap.size, 2, none⟩ = some (.int .i64 lv) ∧ wx.cell? ⟨w2.heap.size, 3, none⟩ = some (.bool rt) ∧ wx.cell? ⟨w2.heap.size, 4, none⟩ = some (.int .i64 pr) ∧ wx.cell? ⟨w2.heap.size, 5, none⟩ = some (.int .i64 0) ∧ wx.cell? ⟨w2.heap.size, 6, none⟩ = some (.string fr) ∧ wx.cell? ⟨w2.heap.size, 7, none⟩ = some (.int .i64 sq) ∧ wx.cell? ⟨w2.heap.size, 8, none⟩ = some (.slice A1 O.length c1)) (exact HS.out)
      (first
        | (go_at_call_of 21 A; ((with_reducible refine (HBm.out _ (HWX.out _ HY.out)).mono ?_); rintro e w5 ⟨Ab, cb, rfl, hcb, hR, hE⟩; have HRb := Lib.hid hR; have HY := Lib.hid (HY.out.trans hE); have HS := Lib.hid (HSf.out _ HY.out); clear hE hR))
        | (go_at_call_of 21 A1; ((with_reducible refine (HBx.out _ A1 c1 (HRX.out _ HY.out)).mono ?_); rintro e w6 ⟨Ax, cx, rfl, hcx, hR, hE⟩; have HRx := Lib.hid hR; have HRb := Lib.hid (HRb.out.ext hE); have HY := Lib.hid (HY.out.trans hE); have HS := Lib.hid (HSf.out _ HY.out); clear hE hR)))
    have hcl := HY.out.cells
    have hfl := HY.out.frozens
    have hcw2 := HE2.out.cells
    obtain ⟨_, m0, m1, m2, m3, m4, m5, m6, m7, m8, x0, x1, x2, x3, x4, x5, x6, x7, x8⟩ := HS.out
    have hz6 : w2.heap.size < w6.heap.size := by have := HY.out.size; simp at this; omega
    have hz6' : w.heap.size < w6.heap.size := by omega
    have hss := set_same
    have HX6 := Lib.hid (HWX.out _ HY.out)
    go_upto_region 13 with (first
      | (go_at_call_of 22 Ab; refine (HEQ.out _ Ax Ab cx cb _ (by rw [List.length_take]; omega) HRx.out HRb.out).mono ?_; rintro e w7 ⟨rfl, hE⟩; have hc7 := hE.cells; have hf7 := hE.frozens; have hz7 : w2.heap.size < w7.heap.size := (by have := hE.size; omega); have hz7' : w.heap.size < w7.heap.size := (by have := hE.size; omega); have HX7 := Lib.hid (HX6.out.trans hE); have HY7 := Lib.hid (HY.out.trans hE); have HRx7 := Lib.hid (HRx.out.ext hE); clear hE)
      | (go_at_call 19; refine (HM2.out _ A1 c1 HX7.out (HRX.out _ HY7.out)).mono ?_; rintro e w8 ⟨AY, cY, rfl, hR, _, hE⟩; have hc8 := hE.cells; have hf8 := hE.frozens; have hz8 : w2.heap.size < w8.heap.size := (by have := hE.size; omega); have hz8' : w.heap.size < w8.heap.size := (by have := hE.size; omega); have HX8 := Lib.hid (HX7.out.trans hE); have HY8 := Lib.hid (HY7.out.trans hE); have HRx8 := Lib.hid (HRx7.out.ext hE); have HRY := Lib.hid hR; clear hE hR)
      | (go_at_call 21; refine (HBy.out _ AY cY (HRY.out.ext ((Ext.refl _).alloc _))).mono ?_; rintro e w9 ⟨Az, cz, rfl, _, hR, hE⟩; have hc9 := hE.cells; have hf9 := hE.frozens; have hz9 : w2.heap.size < w9.heap.size := (by have := hE.size; (try simp at this); omega); have hz9' : w.heap.size < w9.heap.size := (by omega); have HX9 := Lib.hid ((HX8.out.alloc _).trans hE); have HY9 := Lib.hid ((HY8.out.alloc _).trans hE); have HRx9 := Lib.hid (HRx8.out.ext (((Ext.refl _).alloc _).trans hE)); have HRz := Lib.hid hR; clear hE hR)
      | (go_at_call 22; refine (HEQ2.out _ Az Ax cz cx HRz.out HRx9.out).mono ?_; rintro e w10 ⟨rfl, hE⟩; have hc10 := hE.cells; have hf10 := hE.frozens; have hz10 : w2.heap.size < w10.heap.size := (by have := hE.size; omega); have hz10' : w.heap.size < w10.heap.size := (by have := hE.size; omega); have HX10 := Lib.hid (HX9.out.trans hE); have HY10 := Lib.hid (HY9.out.trans hE); clear hE))
    clear m0 m1 m2 m3 m4 m5 m6 m7 m8 x0 x1 x2 x3 x4 x5 x6 x7 x8 hcl hcw2 hc7 hc8 hc9 hc10 hc1 hc2 hc3
    obtain ⟨_, m0, m1, m2, m3, m4, m5, m6, m7, m8, x0, x1, x2, x3, x4, x5, x6, x7, x8⟩ := HSf.out _ HY10.out
    have hfx : ∀ o, w10.frozen? ⟨w2.heap.size, o, none⟩ = false := fun o => (HY10.out.frozen (p := ⟨w2.heap.size, o, none⟩) (by simp)).trans (by simp)
    have hne : w2.heap.size ≠ w.heap.size := by omega
    have y5 := World.cell?_setCell_same _ _ (.int .i64 ex) x5
    have y8 : (w10.setCell ⟨w2.heap.size, 5, none⟩ (.int .i64 ex)).cell? ⟨w2.heap.size, 8, none⟩ = some (.slice A1 O.length c1) := (cell_setne _ (by decide)).trans x8
    have z8 := World.cell?_setCell_same _ _ (.slice A l.length c) y8
    have HXF := Lib.hid ((HX10.out.set (Nat.le_of_lt hz2) (p := ⟨w2.heap.size, 5, none⟩) (.int .i64 ex)).set (Nat.le_of_lt hz2) (p := ⟨w2.heap.size, 8, none⟩) (.slice A l.length c))
    go_wp2_with (first
      | (go_at_call 23; refine (HSameM.out _ (HRd.out.ext HXF.out)).mono ?_; rintro e w11 ⟨rfl, hE⟩; have HX11 := Lib.hid (HXF.out.trans hE); clear hE)
      | (go_at_call 9; refine (example_holds _ (HG.out.ext HX11.out)).mono ?_; rintro e w12 ⟨rfl, hE⟩; have HX12 := Lib.hid (HX11.out.trans hE); clear hE))
    go_ret
    exact ⟨ret_bool (by simp), HX12.out⟩
end Go.Proofs.YthilbmdpbmkakaaDoor
