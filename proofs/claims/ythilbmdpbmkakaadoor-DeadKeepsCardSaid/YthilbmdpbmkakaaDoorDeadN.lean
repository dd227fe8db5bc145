/- Chapter 28: the law of ends. -/
import Derived.Test.YthilbmdpbmkakaaDoorDeadM
set_option linter.unusedVariables false
set_option linter.unusedSimpArgs false
namespace Go.Proofs.YthilbmdpbmkakaaDoor
open Go Go.RowKit

/-- Block g holds a message. -/
def BoxA (W : World) (g : Nat) (t p : ByteArray) (lv : Int) (rt : Bool) (pr ex : Int) (fr : ByteArray) (sq : Int) (s : Value) : Prop :=
  W.cell? ⟨g, 0, none⟩ = some (.string t) ∧ W.cell? ⟨g, 1, none⟩ = some (.string p) ∧ W.cell? ⟨g, 2, none⟩ = some (.int .i64 lv) ∧ W.cell? ⟨g, 3, none⟩ = some (.bool rt) ∧ W.cell? ⟨g, 4, none⟩ = some (.int .i64 pr) ∧ W.cell? ⟨g, 5, none⟩ = some (.int .i64 ex) ∧ W.cell? ⟨g, 6, none⟩ = some (.string fr) ∧ W.cell? ⟨g, 7, none⟩ = some (.int .i64 sq) ∧ W.cell? ⟨g, 8, none⟩ = some s
theorem BoxA.ext {W W' : World} {g : Nat} {t p : ByteArray} {lv : Int} {rt : Bool} {pr ex : Int} {fr : ByteArray} {sq : Int} {s : Value} (h : BoxA W g t p lv rt pr ex fr sq s) (he : Ext W W') : BoxA W' g t p lv rt pr ex fr sq s :=
  ⟨he.cell h.1, he.cell h.2.1, he.cell h.2.2.1, he.cell h.2.2.2.1, he.cell h.2.2.2.2.1, he.cell h.2.2.2.2.2.1, he.cell h.2.2.2.2.2.2.1, he.cell h.2.2.2.2.2.2.2.1, he.cell h.2.2.2.2.2.2.2.2⟩
theorem BoxA.lt {W : World} {g : Nat} {t p : ByteArray} {lv : Int} {rt : Bool} {pr ex : Int} {fr : ByteArray} {sq : Int} {s : Value} (h : BoxA W g t p lv rt pr ex fr sq s) : g < W.heap.size := World.block_lt_of_cell? _ _ h.1
theorem cell_setne {W : World} {g i j : Nat} (v : Value) (h : i ≠ j) : (W.setCell ⟨g, i, none⟩ v).cell? ⟨g, j, none⟩ = W.cell? ⟨g, j, none⟩ := World.cell?_setCell_other _ _ _ _ (fun e => h (by injection e))
theorem BoxA.set {W : World} {g : Nat} {t p : ByteArray} {lv : Int} {rt : Bool} {pr ex : Int} {fr : ByteArray} {sq : Int} {s : Value} (h : BoxA W g t p lv rt pr ex fr sq s) (t' p' : ByteArray) (lv' : Int) (rt' : Bool) (pr' ex' : Int) (fr' : ByteArray) (sq' : Int) (s' : Value) :
    BoxA (((((((((W.setCell ⟨g, 0, none⟩ (.string t')).setCell ⟨g, 1, none⟩ (.string p')).setCell ⟨g, 2, none⟩ (.int .i64 lv')).setCell ⟨g, 3, none⟩ (.bool rt')).setCell ⟨g, 4, none⟩ (.int .i64 pr')).setCell ⟨g, 5, none⟩ (.int .i64 ex')).setCell ⟨g, 6, none⟩ (.string fr')).setCell ⟨g, 7, none⟩ (.int .i64 sq')).setCell ⟨g, 8, none⟩ s') g t' p' lv' rt' pr' ex' fr' sq' s' := by
  obtain ⟨h0, h1, h2, h3, h4, h5, h6, h7, h8⟩ := h
  refine ⟨?_, ?_, ?_, ?_, ?_, ?_, ?_, ?_, ?_⟩
  · simp only [cell_setne, ne_eq, Nat.reduceEqDiff, not_false_eq_true]; simp [set_same, h0]
  · simp only [cell_setne, ne_eq, Nat.reduceEqDiff, not_false_eq_true]; simp [set_same, cell_setne, h1]
  · simp only [cell_setne, ne_eq, Nat.reduceEqDiff, not_false_eq_true]; simp [set_same, cell_setne, h2]
  · simp only [cell_setne, ne_eq, Nat.reduceEqDiff, not_false_eq_true]; simp [set_same, cell_setne, h3]
  · simp only [cell_setne, ne_eq, Nat.reduceEqDiff, not_false_eq_true]; simp [set_same, cell_setne, h4]
  · simp only [cell_setne, ne_eq, Nat.reduceEqDiff, not_false_eq_true]; simp [set_same, cell_setne, h5]
  · simp only [cell_setne, ne_eq, Nat.reduceEqDiff, not_false_eq_true]; simp [set_same, cell_setne, h6]
  · simp only [cell_setne, ne_eq, Nat.reduceEqDiff, not_false_eq_true]; simp [set_same, cell_setne, h7]
  · exact set_same _ _ _ (by simp [cell_setne, h8])
theorem outL_fit (q : ByteArray) (l : List Pr) (reason : Int) (hf : PrFit l) (hq : q.size ≤ 16) (h0 : 1 ≤ reason) (h4 : reason ≤ 4) : PrFit (outL q l reason) := fun p hp => by
  have hm := (outL_perm q l reason).mem_iff.1 hp
  rcases List.mem_append.1 hm with hm | hm
  · exact hf p ((kept_sub l).mem hm)
  · rw [marksP_eq] at hm
    simp only [List.mem_cons, List.not_mem_nil, or_false] at hm
    rcases hm with rfl | rfl
    · have hb := nextD_bd l
      have := strI_small _ hb.1 hb.2
      exact ⟨by show kDeaths.size ≤ maxLen; decide, by show (strI (nextD l)).size ≤ maxLen; unfold maxLen; omega⟩
    · have := strI_small reason (by omega) (by omega)
      refine ⟨by show kDied.size ≤ maxLen; decide, ?_⟩
      show (q ++ ⟨#[32]⟩ ++ strI reason).size ≤ maxLen
      have e : (⟨#[32]⟩ : ByteArray).size = 1 := rfl
      rw [ByteArray.size_append, ByteArray.size_append, e]
      unfold maxLen
      omega
theorem outL_deaths {l : List Pr} (h : AscS l) (q : ByteArray) (reason : Int) : deathsE (outL q l reason) = min (deathsE l + 1) 1099511627776 := deaths_of (q := q) (reason := reason) (outL_dis h q reason) (outL_mem1 q l reason)
/-- What lasts from mark to mark. -/
structure EndR (g : Nat) (t p : ByteArray) (lv : Int) (rt : Bool) (pr : Int) (fr : ByteArray) (sq d0 : Int) (w W : World) (k : Nat) (ex : Int) (A : Option Addr) (c : Nat) (l : List Pr) : Prop where
  box : BoxA W g t p lv rt pr ex fr sq (.slice A l.length c)
  frz : ∀ o, W.frozen? ⟨g, o, none⟩ = false
  rd : Rd encP 2 W A l
  fit : PrFit l
  asc : AscS l
  len : l.length ≤ 8
  dth : deathsE l = min (d0 + k) 1099511627776
  run : k = 0 ∨ d0 + k ≤ 8
  ext : Ext w W
  gle : w.heap.size ≤ g
theorem EndR.ext' {g : Nat} {t p : ByteArray} {lv : Int} {rt : Bool} {pr : Int} {fr : ByteArray} {sq d0 : Int} {w W W' : World} {k : Nat} {ex : Int} {A : Option Addr} {c : Nat} {l : List Pr} (h : EndR g t p lv rt pr fr sq d0 w W k ex A c l) (he : Ext W W') : EndR g t p lv rt pr fr sq d0 w W' k ex A c l :=
  { box := h.box.ext he, frz := fun o => (he.frozen (p := ⟨g, o, none⟩) h.box.lt).trans (h.frz o), rd := h.rd.ext he, fit := h.fit, asc := h.asc, len := h.len, dth := h.dth, run := h.run, ext := h.ext.trans he, gle := h.gle }
theorem EndR.mark {g : Nat} {t p : ByteArray} {lv : Int} {rt : Bool} {pr : Int} {fr : ByteArray} {sq d0 : Int} {w W W' : World} {k : Nat} {ex : Int} {A : Option Addr} {c : Nat} {l : List Pr} (h : EndR g t p lv rt pr fr sq d0 w W k ex A c l) (he : Ext W W') (reason : Int) (h1 : 1 ≤ reason) (h4 : reason ≤ 4) (hd : 0 ≤ d0) (hlt : deathsE l < 8)
    {A' : Option Addr} {c' : Nat} (hr : Rd encP 2 W' A' (outL bQ l reason)) (hA : ∀ a, A' = some a → a.block ≠ g) :
    EndR g t p lv rt pr fr sq d0 w (((((((((W'.setCell ⟨g, 0, none⟩ (.string t)).setCell ⟨g, 1, none⟩ (.string p)).setCell ⟨g, 2, none⟩ (.int .i64 lv)).setCell ⟨g, 3, none⟩ (.bool rt)).setCell ⟨g, 4, none⟩ (.int .i64 pr)).setCell ⟨g, 5, none⟩ (.int .i64 0)).setCell ⟨g, 6, none⟩ (.string fr)).setCell ⟨g, 7, none⟩ (.int .i64 sq)).setCell ⟨g, 8, none⟩ (.slice A' (outL bQ l reason).length c')) (k + 1) 0 A' c' (outL bQ l reason) := by
  have hne : ∀ a, A' = some a → g ≠ a.block := fun a ha e => hA a ha e.symm
  have hdl := h.dth
  exact { box := (h.box.ext he).set t p lv rt pr 0 fr sq _, frz := fun o => by simp only [World.frozen?_setCell]; exact (he.frozen (p := ⟨g, o, none⟩) h.box.lt).trans (h.frz o), rd := (((((((((hr.setne _ hne).setne _ hne).setne _ hne).setne _ hne).setne _ hne).setne _ hne).setne _ hne).setne _ hne).setne _ hne),
          fit := outL_fit bQ l reason h.fit (by decide) h1 h4, asc := outL_strict h.asc bQ reason, len := outL_len bQ l reason, dth := by rw [outL_deaths h.asc, hdl]; push_cast; omega, run := .inr (by push_cast; omega),
          ext := (((((((((h.ext.trans he).set h.gle _).set h.gle _).set h.gle _).set h.gle _).set h.gle _).set h.gle _).set h.gle _).set h.gle _).set h.gle _, gle := h.gle }

set_option maxRecDepth 100000 in
set_option maxHeartbeats 3200000 in
theorem law_Ends (t p : ByteArray) (lv : Int) (rt : Bool) (pr ex : Int) (fr : ByteArray) (sq : Int) (A : Option Addr) (c : Nat) (l : List Pr) (reason : Int) (w : World)
    (ht : t.size ≤ maxLen) (hp : p.size ≤ maxLen) (hfr : fr.size ≤ maxLen) (hl : l.length ≤ maxLen) (hf : PrFit l) (hr : Rd encP 2 w A l) (hg : Glob w) :
    Calls Tryd.prog 5 #[.agg #[.string t, .string p, .int .i64 lv, .bool rt, .int .i64 pr, .int .i64 ex, .string fr, .int .i64 sq, .slice A l.length c], .int .i64 reason] w
      fun e w' => e = .returned (.bool true) ∧ Ext w w' := by
  have HRd := Lib.hid hr; clear hr
  have HF := Lib.hid hf
  have HG := Lib.hid hg; clear hg
  have HFT := Lib.hid (fun h => fits_true (q := bQ) (t := t) (p := p) (lv := lv) (pr := pr) (ex := ex) (fr := fr) (sq := sq) (l := l) (reason := reason) h)
  have HFc := Lib.hid (fun (W : World) (hW : Ext w W) => law_fits ⟨#[113]⟩ t p lv rt pr ex fr sq A c l reason W (by decide) ht hp hfr hl HF.out (HRd.out.ext hW))
  obtain ⟨F, hF⟩ : ∃ F, F = fitsB ⟨#[113]⟩ t p lv pr ex fr sq l reason := ⟨_, rfl⟩
  rw [← hF] at HFc
  have HFE : Hid (F = true → fitsB bQ t p lv pr ex fr sq l reason = true) := Lib.hid (fun h => by rw [← h, hF])
  clear hF hf
  cases F with
  | false =>
    go_enter Tryd.func5, Tryd.ntmps5
    go_wp2_with (first
      | (go_at_call 18; refine (HFc.out _ ((Ext.refl w).alloc _)).mono ?_; rintro e w1 ⟨rfl, hE⟩; have HX := Lib.hid (((Ext.refl w).alloc _).trans hE); clear hE)
      | (go_at_call 9; refine (example_holds _ (HG.out.ext HX.out)).mono ?_; rintro e w2 ⟨rfl, hE⟩; have HX2 := Lib.hid (HX.out.trans hE); clear hE))
    go_ret
    exact ⟨rfl, HX2.out⟩
  | true =>
    obtain ⟨hn, _, h1, h4, hq16, hs, _, hl8⟩ := HFT.out (HFE.out rfl)
    have HS0 := Lib.hid hs; clear hs hn hq16
    obtain ⟨hd0, hd1⟩ := deathsL_bd (getV l kDeaths).data.toList
    have hd : deathsL (getV l kDeaths).data.toList = deathsE l := rfl
    rw [hd] at hd0 hd1
    clear hd
    have HBOX : Hid (∀ W, Ext (w.alloc (msgC t p lv rt pr ex fr sq (.slice A l.length c))) W → EndR w.heap.size t p lv rt pr fr sq (deathsE l) w W 0 ex A c l) := Lib.hid (fun W hW =>
      { box := (msg_S _ _ _ _ _ _ _ _ _ _ _ hW).2, frz := fun o => (hW.frozen (p := ⟨w.heap.size, o, none⟩) (by simp)).trans (by simp), rd := HRd.out.ext (((Ext.refl w).alloc _).trans hW),
        fit := HF.out, asc := HS0.out, len := hl8, dth := by simp; omega, run := .inl rfl, ext := ((Ext.refl w).alloc _).trans hW, gle := Nat.le_refl _ })
    have HGL : Hid (∀ W, Ext w W → Glob W) := Lib.hid (fun W h => HG.out.ext h)
    have HDt := Lib.hid (fun (W : World) (hW : Ext w W) => dead_Deaths t p lv rt pr ex fr sq A c l W hl HF.out (HRd.out.ext hW))
    generalize deathsE l = d0 at *
    obtain ⟨g, hg⟩ : ∃ g, g = w.heap.size := ⟨_, rfl⟩
    go_enter Tryd.func5, Tryd.ntmps5
    go_upto_block 1 with (first
      | (go_at_call 18; refine (HFc.out _ ((Ext.refl w).alloc _)).mono ?_; rintro e w1 ⟨rfl, hE⟩; have hc1 := hE.cells; have hf1 := hE.frozens; have hz1 : w.heap.size < w1.heap.size := (by have := hE.size; (try simp at this); omega); have HX := Lib.hid (((Ext.refl w).alloc _).trans hE); have HE1 := Lib.hid hE; clear hE)
      | (go_at_call 14; refine (HDt.out _ HX.out).mono ?_; rintro e w2 ⟨rfl, hE⟩; have hz2 : w.heap.size < w2.heap.size := (by have := hE.size; omega); have HE2 := Lib.hid (HE1.out.trans hE); clear hE))
    clear hg hd1
    go_loopw [6] (fun i wr => ∃ (k : Nat) (ex' : Int) (A' : Option Addr) (c' : Nat) (l' : List Pr), i = .int .i64 k ∧ EndR w.heap.size t p lv rt pr fr sq d0 w wr k ex' A' c' l') (fun i _ => 9 - (intOf i).toNat)
    case atStart => exact ⟨0, ex, A, c, l, rfl, HBOX.out _ HE2.out⟩
    case round =>
      obtain ⟨k, ex', A', c', l', rfl, hL⟩ := hrel
      have hk8 : (k : Int) ≤ 8 := by have := hL.run; omega
      have hzg := hL.box.lt
      obtain ⟨p0, p1, p2, p3, p4, p5, p6, p7, p8⟩ := hL.box
      have hfz := hL.frz
      have hlen := hL.len
      have hlm : l'.length ≤ maxLen := by unfold maxLen; omega
      have HAg := Lib.hid (fun (W : World) (h : Ext wr W) => dead_Again t p lv rt pr ex' fr sq A' c' l' W hlm hL.fit (hL.rd.ext h))
      have HMk := Lib.hid (fun (W : World) (h : Ext wr W) => dead_Mark_v ⟨#[113]⟩ t p lv rt pr ex' fr sq A' c' l' reason W hlm hL.fit (hL.rd.ext h) (HGL.out W (hL.ext.trans h)) (by omega) (by omega) (by decide) hL.asc)
      have HP1 : Hid (MarkPostV ⟨#[113]⟩ l' reason t p lv rt pr fr sq = fun w e w' => ∃ (A : Option Addr) (c : Nat), e = .returned (.agg #[.string t, .string p, .int .i64 lv, .bool rt, .int .i64 pr, .int .i64 0, .string fr, .int .i64 sq, .slice A (outL bQ l' reason).length c]) ∧ Rd encP 2 w' A (outL bQ l' reason) ∧ (∀ a, A = some a → w.heap.size ≤ a.block) ∧ Ext w w') := Lib.hid rfl
      rw [HP1.out] at HMk
      have HL := Lib.hid hL
      have hdth := hL.dth
      have hrun := hL.run
      clear hL
      by_cases h8 : deathsE l' < 8
      · have hd : decide (deathsE l' < 8) = true := by simpa using h8
        have HNX := Lib.hid (fun (W : World) (he : Ext wr W) (A2 : Option Addr) (c2 : Nat) (hr : Rd encP 2 W A2 (outL bQ l' reason)) (hA : ∀ a, A2 = some a → a.block ≠ w.heap.size) => HL.out.mark (c' := c2) he reason h1 h4 hd0 h8 hr hA)
        generalize deathsE l' = dl at *
        generalize outL bQ l' reason = O at *
        clear hdth hrun
        go_wp2_with (first
          | (go_at_call 16; refine (HAg.out _ (Ext.refl _)).mono ?_; rintro e w3 ⟨rfl, hE⟩; have hc3 := hE.cells; have hf3 := hE.frozens; have hz3 : w.heap.size < w3.heap.size := (by have := hE.size; omega); have HE3 := Lib.hid hE; clear hE)
          | (go_at_call 19; refine (HMk.out _ HE3.out).mono ?_; rintro e w4 ⟨A2, c2, rfl, hR, hfar, hE⟩; have HR := Lib.hid hR; have HF4 : Hid (∀ a, A2 = some a → a.block ≠ w.heap.size) := Lib.hid (fun a ha e => by have := hfar a ha; omega); have hc4 := hE.cells; have hf4 := hE.frozens; have hz4 : w.heap.size < w4.heap.size := (by have := hE.size; omega); have HE4 := Lib.hid (HE3.out.trans hE); clear hE hR hfar))
        go_roundw
        case rel => exact ⟨k + 1, 0, A2, c2, O, by go_num, HNX.out _ HE4.out _ _ HR.out HF4.out⟩
        case measure => simp [intOf]; omega
      · have hd : decide (deathsE l' < 8) = false := by simpa using h8
        have hb : ((k : Int) == max (8 - d0) 0) = true := by rw [beq_iff_eq]; omega
        generalize deathsE l' = dl at *
        clear hdth hrun h8
        go_wp2_with (first
          | (go_at_call 16; refine (HAg.out _ (Ext.refl _)).mono ?_; rintro e w3 ⟨rfl, hE⟩; have hc3 := hE.cells; have hf3 := hE.frozens; have hz3 : w.heap.size < w3.heap.size := (by have := hE.size; omega); have HE3 := Lib.hid hE; clear hE)
          | (go_at_call 9; refine (example_holds _ (HGL.out _ (HL.out.ext.trans HE3.out))).mono ?_; rintro e w5 ⟨rfl, hE⟩; have HX5 := Lib.hid ((HL.out.ext.trans HE3.out).trans hE); clear hE))
        go_ret
        exact ⟨ret_bool (by simp [hb]), HX5.out⟩
end Go.Proofs.YthilbmdpbmkakaaDoor
