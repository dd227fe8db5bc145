/- Contracts of chapter 28: dead.Mark. -/
import Derived.Test.YthilbmdpbmkakaaDoorDeadD
import Derived.Lib.ItoaLen
set_option linter.unusedVariables false
set_option linter.unusedSimpArgs false
namespace Go.Proofs.YthilbmdpbmkakaaDoor
open Go Go.RowKit

def nextD (l : List Pr) : Int := min (deathsE l + 1) 1099511627776
theorem deathsL_bd (l : List UInt8) : 0 ≤ deathsL l ∧ deathsL l ≤ 1099511627776 := by
  unfold deathsL
  repeat' split
  all_goals omega
def strI (n : Int) : ByteArray := ⟨(Lib.itoa n).toArray⟩
theorem strI_list (n : Int) : (strI n).data.toList = Lib.itoa n := by simp [strI]
theorem strI_size (n : Int) (h0 : -9223372036854775808 ≤ n) (h1 : n ≤ 9223372036854775807) : (strI n).size ≤ 21 := by
  have := Lib.itoa_length_le n h0 h1
  rw [← strI_list, size_data] at this
  exact this
theorem itoa_I (n : Int) (h0 : -9223372036854775808 ≤ n) (h1 : n ≤ 9223372036854775807) (w : World) (hg : Glob w) :
    Calls Tryd.prog 34 #[.int .i64 n] w fun e w' => e = .returned (.string (strI n)) ∧ Ext w w' := itoa_ext n h0 h1 w hg
/-- The two properties that Mark adds. -/
def marksP (q : ByteArray) (l : List Pr) (reason : Int) : List Pr := [(kDeaths, strI (nextD l)), (kDied, q ++ ⟨#[32]⟩ ++ strI reason)]
def MarkPost (q : ByteArray) (l : List Pr) (reason : Int) (t p : ByteArray) (lv : Int) (rt : Bool) (pr : Int) (fr : ByteArray) (sq : Int) (w : World) (e : Ending) (w' : World) : Prop :=
  ∃ (out : List Pr) (A : Option Addr) (c : Nat), e = .returned (.agg #[.string t, .string p, .int .i64 lv, .bool rt, .int .i64 pr, .int .i64 0, .string fr, .int .i64 sq, .slice A out.length c]) ∧
    out.Perm (keepP (marksP q l reason) 6 l ++ marksP q l reason) ∧ AscP out ∧ Rd encP 2 w' A out ∧ (∀ a, A = some a → w.heap.size ≤ a.block) ∧ Ext w w'

theorem keepS {w W W' : World} {a : Addr} {v : Value} (h : W.cell? a = some v ∧ W.frozen? a = false ∧ Ext w W) (he : Ext W W') : W'.cell? a = some v ∧ W'.frozen? a = false ∧ Ext w W' :=
  ⟨he.cell h.1, (he.frozen (World.block_lt_of_cell? W a h.1)).trans h.2.1, h.2.2.trans he⟩
theorem keepM {w W : World} {a : Addr} {v : Value} (h : Ext w W) (hc : W.cell? a = some v) (hf : W.frozen? a = false) : Hid (W.cell? a = some v ∧ W.frozen? a = false ∧ Ext w W) := Lib.hid ⟨hc, hf, h⟩
theorem set_same (w : World) (p : Addr) (v : Value) (h : (w.cell? p).isSome = true) : (w.setCell p v).cell? p = some v := by
  obtain ⟨u, hu⟩ := Option.isSome_iff_exists.1 h
  exact World.cell?_setCell_same w p v hu
theorem Own.far {α : Type} {enc : α → List Value} {k e base : Nat} {w : World} {v : Value} {l : List α} (h : Own enc k e base w v l) {A : Option Addr} {n c : Nat} (hv : v = .slice A n c) : ∀ a, A = some a → base ≤ a.block := fun a ha => by
  subst hv; subst ha
  exact h.base a.block (by simp [Value.ownBlock])
theorem Rd.set {α : Type} {enc : α → List Value} {k : Nat} {w : World} {A : Option Addr} {l : List α} (h : Rd enc k w A l) {p : Addr} (v : Value) (hp : ∀ a, A = some a → p.block < a.block) : Rd enc k (w.setCell p v) A l := fun hl => by
  obtain ⟨b, off, hA, hb, hc⟩ := h hl
  exact ⟨b, off, hA, by simpa using hb, fun j hj i u hu => (World.cell?_setCell_other _ _ _ _ (fun e => by have := hp _ hA; rw [e] at this; simp at this)).trans (hc j hj i u hu)⟩
theorem keepE {w W : World} {a : Addr} {v : Value} (h : W.cell? a = some v ∧ W.frozen? a = false ∧ Ext w W) : Ext w W := h.2.2
theorem rd_two (W : World) (a b c d : ByteArray) : Rd encP 2 (W.alloc (.cells #[.string a, .string b, .string c, .string d] 35)) (some ⟨W.heap.size, 0, none⟩) [(a, b), (c, d)] := fun _ =>
  ⟨W.heap.size, 0, rfl, by simp, fun j hj i u hu => by
    match j, hj, i, hu with
    | 0, _, 0, hu => simp [encP] at hu; subst hu; simp
    | 0, _, 1, hu => simp [encP] at hu; subst hu; simp
    | 0, _, i + 2, hu => simp [encP] at hu
    | 1, _, 0, hu => simp [encP] at hu; subst hu; simp
    | 1, _, 1, hu => simp [encP] at hu; subst hu; simp
    | 1, _, i + 2, hu => simp [encP] at hu
    | j + 2, hj, _, _ => simp at hj; omega⟩
theorem with_rd (A D : Option Addr) (c d : Nat) (l os : List Pr) (w : World) (hl : l.length ≤ maxLen) (ho : 0 < os.length) (ho8 : os.length ≤ 8) (hr : Rd encP 2 w A l) (hr2 : Rd encP 2 w D os) :
    Calls Tryd.prog 36 #[.slice A l.length c, .slice D os.length d] w fun e w' => ∃ (out : List Pr) (A' : Option Addr) (c' : Nat), e = .returned (.slice A' out.length c') ∧ out.Perm (keepP os (8 - os.length) l ++ os) ∧ AscP out ∧ Rd encP 2 w' A' out ∧ (∀ a, A' = some a → w.heap.size ≤ a.block) ∧ Ext w w' :=
  (dead_with A D c d l os w hl ho ho8 hr hr2).mono fun e w' ⟨v, out, he, hO, hp, ha, hE⟩ => by
    obtain ⟨A', c', hv, _, _, hrd⟩ := hO.rd encP_len
    exact ⟨out, A', c', hv ▸ he, hp, ha, hrd, hO.far hv, hE⟩
set_option maxRecDepth 100000 in
set_option maxHeartbeats 3200000 in
theorem dead_Mark (q t p : ByteArray) (lv : Int) (rt : Bool) (pr ex : Int) (fr : ByteArray) (sq : Int) (A : Option Addr) (c : Nat) (l : List Pr) (reason : Int) (w : World)
    (hl : l.length ≤ maxLen) (hf : PrFit l) (hr : Rd encP 2 w A l) (hg : Glob w) (hr0 : -9223372036854775808 ≤ reason) (hr1 : reason ≤ 9223372036854775807) (hq : q.size ≤ 4096) :
    Calls Tryd.prog 19 #[.string q, .agg #[.string t, .string p, .int .i64 lv, .bool rt, .int .i64 pr, .int .i64 ex, .string fr, .int .i64 sq, .slice A l.length c], .int .i64 reason] w (MarkPost q l reason t p lv rt pr fr sq w) := by
  have HRd := Lib.hid hr; clear hr
  have HG := Lib.hid hg; clear hg
  have HF := Lib.hid hf; clear hf
  obtain ⟨hd0, hd1⟩ := deathsL_bd (getV l kDeaths).data.toList
  have hd : deathsL (getV l kDeaths).data.toList = deathsE l := rfl
  rw [hd] at hd0 hd1
  have hn : Hid (min (deathsE l + 1) 1099511627776 = nextD l) := Lib.hid rfl
  clear hd
  go_enter Tryd.func19, Tryd.ntmps19
  go_wp2_with (first | (go_at_call 14; refine (dead_Deaths t p lv rt pr ex fr sq A c l _ hl HF.out (HRd.out.ext (((Ext.refl w).alloc _).alloc _))).mono ?_; rintro e w1 ⟨rfl, hE⟩; have hc1 := hE.cells; have hf1 := hE.frozens; have hz1 : w.heap.size + 1 < w1.heap.size := (by have := hE.size; (try simp at this); omega); have HX := Lib.hid (Ext.trans (((Ext.refl w).alloc _).alloc _) hE); clear hE))
  have hk5 : w1.cell? ⟨w.heap.size, 5, none⟩ = some (.int .i64 ex) := (by go_simp)
  have hl5 := World.cell?_setCell_same _ _ (.int .i64 0) hk5
  have hz1' : w.heap.size < w1.heap.size := by omega
  have HX1 : Hid (Ext (w1.setCell ⟨w.heap.size, 5, none⟩ (.int .i64 0)) (w1.setCell ⟨w.heap.size, 5, none⟩ (.int .i64 0)).drew) := Lib.hid (Ext.refl _).drew
  have HXS : Hid (Ext w (w1.setCell ⟨w.heap.size, 5, none⟩ (.int .i64 0))) := Lib.hid (HX.out.set (Nat.le_refl _) _)
  have hs1 := strI_size reason hr0 hr1
  have hn0 : -9223372036854775808 ≤ min (deathsE l + 1) 1099511627776 := by omega
  have hn1 : min (deathsE l + 1) 1099511627776 ≤ 9223372036854775807 := by omega
  have hq8 : ¬ 9223372036854775807 < q.size + 1 := by omega
  have hq9 : ¬ 9223372036854775807 < q.size + 1 + (strI reason).size := by omega
  go_region_with (first
      | (go_at_call 34; refine (itoa_I _ (by first | exact hn0 | exact hr0) (by first | exact hn1 | exact hr1) _ (HG.out.ext (HXS.out.trans (by first | exact HX3.out | exact HX1.out)))).mono ?_; rintro e w2 ⟨rfl, hE⟩; have HX3 := Lib.hid (by first | exact HX3.out.trans hE | exact HX1.out.trans hE); have hc2 : ∀ b o, b < w1.heap.size → _ := fun b o hb => HX3.out.cells b o (by simpa using hb); have hf2 : ∀ b o, b < w1.heap.size → _ := fun b o hb => HX3.out.frozens b o (by simpa using hb); have hz2 : w.heap.size + 1 < w2.heap.size := Nat.lt_of_lt_of_le hz1 (by simpa using HX3.out.size); have hz2' : w.heap.size < w2.heap.size := (by omega); have hk2 : w2.cell? ⟨w.heap.size, 8, none⟩ = some (.slice A l.length c) := (by go_simp); have hm2 : w2.frozen? ⟨w.heap.size, 8, none⟩ = false := (by go_simp); clear hE)
      | (go_at_call 36; refine (with_rd A _ c 2 l (marksP q l reason) _ hl (by show 0 < 2; decide) (by show 2 ≤ 8; decide) (HRd.out.ext ((HXS.out.trans HX3.out).alloc _)) (rd_two _ _ _ _ _)).mono ?_; rintro e w3 ⟨out, A', c', rfl, hp, ha, hO, hfar, hE⟩; have HO := Lib.hid hO; have HFar : Hid (∀ a, A' = some a → w.heap.size + 1 < a.block) := Lib.hid (fun a h => Nat.lt_of_lt_of_le (by simp; omega) (hfar a h)); clear hfar; have HP := Lib.hid hp; have HA := Lib.hid ha; have HX4 := Lib.hid ((HX3.out.alloc _).trans hE); have hc3 : ∀ b o, b < w1.heap.size → _ := fun b o hb => HX4.out.cells b o (by simpa using hb); have hf3 : ∀ b o, b < w1.heap.size → _ := fun b o hb => HX4.out.frozens b o (by simpa using hb); have hz3 : w.heap.size + 1 < w3.heap.size := Nat.lt_of_lt_of_le hz1 (by simpa using HX4.out.size); have hz3' : w.heap.size < w3.heap.size := (by omega); have hk3 : w3.cell? ⟨w.heap.size, 8, none⟩ = some (.slice A l.length c) := (by go_simp); have hl8 := World.cell?_setCell_same _ _ (.slice A' out.length c') hk3; have hk35 : w3.cell? ⟨w.heap.size, 5, none⟩ = some (.int .i64 0) := (hc3 _ _ hz1').trans hl5; have hm3 : w3.frozen? ⟨w.heap.size, 8, none⟩ = false := (by go_simp); clear hO hp ha hE))
  all_goals (go_wp2; refine bodyPost_ret (v := .agg #[.string t, .string p, .int .i64 lv, .bool rt, .int .i64 pr, .int .i64 0, .string fr, .int .i64 sq, .slice A' out.length c']) (by simp [results, Tryd.results19, go_sem, set_same, hc3, hz1, hc1]) rfl ⟨out, A', c', rfl, HP.out, HA.out, ?_, fun a h => Nat.le_of_lt (Nat.lt_trans (Nat.lt_succ_self _) (HFar.out a h)), ?_⟩)
  all_goals first
    | exact (((((((((HO.out.set _ (fun a h => Nat.lt_trans (Nat.lt_succ_self _) (HFar.out a h))).set _ HFar.out).set _ HFar.out).set _ HFar.out).set _ HFar.out).set _ HFar.out).set _ HFar.out).set _ HFar.out).set _ HFar.out).set _ HFar.out
    | exact ((((((((((HXS.out.trans HX4.out).set (Nat.le_refl _) _).set (Nat.le_succ _) _).set (Nat.le_succ _) _).set (Nat.le_succ _) _).set (Nat.le_succ _) _).set (Nat.le_succ _) _).set (Nat.le_succ _) _).set (Nat.le_succ _) _).set (Nat.le_succ _) _).set (Nat.le_succ _) _
    | skip
end Go.Proofs.YthilbmdpbmkakaaDoor
