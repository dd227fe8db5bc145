/- Contracts of chapter 28: the examples. -/
import Derived.Test.YthilbmdpbmkakaaDoorDeadG
import Derived.Deep.RegionHeld3
set_option linter.unusedVariables false
set_option linter.unusedSimpArgs false
namespace Go.Proofs.YthilbmdpbmkakaaDoor
open Go Go.RowKit

abbrev specV : Value := .agg #[.string ⟨#[113]⟩, .int .i64 1, .int .i64 10, .int .i64 2, .string ⟨#[]⟩]
abbrev entV (k : Int) : Value := .agg #[.int .i64 1, .int .i64 5, .int .i64 k, .string ⟨#[116]⟩, .string ⟨#[]⟩, .int .i64 0, .bool false, .int .i64 0, .int .i64 0, .string ⟨#[]⟩, .int .i64 0, .slice none 0 0]
theorem reason14 (w : World) : Calls Tryd.prog 10 #[specV, entV 1, .int .i64 14] w fun e w' => e = .returned (.int .i64 0) ∧ Ext w w' :=
  (dead_Reason _ _ _ _ _ _ _ _ _ _ _ _ _ _ _ _ _ _ _ _ w).mono fun e w' ⟨he, hE⟩ => ⟨he.trans (ret_int (by simp [reasonE, expiredB, RowKit.wrap64])), hE⟩
theorem reason15 (w : World) : Calls Tryd.prog 10 #[specV, entV 1, .int .i64 15] w fun e w' => e = .returned (.int .i64 2) ∧ Ext w w' :=
  (dead_Reason _ _ _ _ _ _ _ _ _ _ _ _ _ _ _ _ _ _ _ _ w).mono fun e w' ⟨he, hE⟩ => ⟨he.trans (ret_int (by simp [reasonE, expiredB, RowKit.wrap64])), hE⟩
theorem reason5 (w : World) : Calls Tryd.prog 10 #[specV, entV 2, .int .i64 5] w fun e w' => e = .returned (.int .i64 4) ∧ Ext w w' :=
  (dead_Reason _ _ _ _ _ _ _ _ _ _ _ _ _ _ _ _ _ _ _ _ w).mono fun e w' ⟨he, hE⟩ => ⟨he.trans (ret_int (by simp [reasonE, expiredB, RowKit.wrap64])), hE⟩
theorem from_c (A : Option Addr) (c n : Nat) (l : List Pr) (hn : l.length = n) (w : World) (hr : Rd encP 2 w A l) (hg : Glob w) (hl : l.length ≤ maxLen) (hs : (getV l kDied).size < 4294967281) (x : ByteArray) (k : Int) (hx : fromN (getV l kDied) = x) (hk : fromI (getV l kDied) = k) :
    Calls Tryd.prog 12 #[msgV ⟨#[116]⟩ (.slice A n c)] w fun e w' => e = .returned (.tuple #[.string x, .int .i64 k]) ∧ Ext w w' := by
  subst hn; subst hx; subst hk
  exact dead_From _ _ _ _ _ _ _ _ A c l w hl hs hr hg
theorem getV_mk (n x r : UInt8) : getV (mkL n x r) kDied = ⟨#[x, 32, r]⟩ := by simp [getV, getP]
theorem from1 (A : Option Addr) (c : Nat) (w : World) (hr : Rd encP 2 w A (mkL 49 113 49)) (hg : Glob w) :
    Calls Tryd.prog 12 #[msgV ⟨#[116]⟩ (.slice A 2 c)] w fun e w' => e = .returned (.tuple #[.string ⟨#[113]⟩, .int .i64 1]) ∧ Ext w w' :=
  from_c A c 2 _ rfl w hr hg (by simp [maxLen]) (by rw [getV_mk]; decide) _ _ (by rw [getV_mk]; decide) (by rw [getV_mk]; decide)
theorem from2 (A : Option Addr) (c : Nat) (w : World) (hr : Rd encP 2 w A (mkL 50 112 50)) (hg : Glob w) :
    Calls Tryd.prog 12 #[msgV ⟨#[116]⟩ (.slice A 2 c)] w fun e w' => e = .returned (.tuple #[.string ⟨#[112]⟩, .int .i64 2]) ∧ Ext w w' :=
  from_c A c 2 _ rfl w hr hg (by simp [maxLen]) (by rw [getV_mk]; decide) _ _ (by rw [getV_mk]; decide) (by rw [getV_mk]; decide)
theorem deaths_c (n : UInt8) (k : Int) (x r : UInt8) (A : Option Addr) (c : Nat) (w : World) (hr : Rd encP 2 w A (mkL n x r)) (hk : deathsE (mkL n x r) = k) :
    Calls Tryd.prog 14 #[msgV ⟨#[116]⟩ (.slice A 2 c)] w fun e w' => e = .returned (.int .i64 k) ∧ Ext w w' := by
  subst hk
  exact dead_Deaths _ _ _ _ _ _ _ _ A c (mkL n x r) w (by simp [maxLen]) (by simp [PrFit, maxLen]; refine ⟨⟨?_, ?_⟩, ?_, ?_⟩ <;> (simp only [ByteArray.size]; simp)) hr

theorem ex_S (w wx : World) (h : Ext ((w.alloc (.cells #[.string ⟨#[113]⟩, .int .i64 1, .int .i64 10, .int .i64 2, .string ⟨#[]⟩] 23)).alloc (.cells #[.int .i64 1, .int .i64 5, .int .i64 1, .string ⟨#[116]⟩, .string ⟨#[]⟩, .int .i64 0, .bool false, .int .i64 0, .int .i64 0, .string ⟨#[]⟩, .int .i64 0, .slice none 0 0] 28)) wx) : Ext ((w.alloc (.cells #[.string ⟨#[113]⟩, .int .i64 1, .int .i64 10, .int .i64 2, .string ⟨#[]⟩] 23)).alloc (.cells #[.int .i64 1, .int .i64 5, .int .i64 1, .string ⟨#[116]⟩, .string ⟨#[]⟩, .int .i64 0, .bool false, .int .i64 0, .int .i64 0, .string ⟨#[]⟩, .int .i64 0, .slice none 0 0] 28)) wx ∧ wx.cell? ⟨w.heap.size, 0, none⟩ = some (.string ⟨#[113]⟩) ∧ wx.cell? ⟨w.heap.size, 1, none⟩ = some (.int .i64 1) ∧ wx.cell? ⟨w.heap.size, 2, none⟩ = some (.int .i64 10) ∧ wx.cell? ⟨w.heap.size, 3, none⟩ = some (.int .i64 2) ∧ wx.cell? ⟨w.heap.size, 4, none⟩ = some (.string ⟨#[]⟩) ∧ wx.cell? ⟨w.heap.size + 1, 0, none⟩ = some (.int .i64 1) ∧ wx.cell? ⟨w.heap.size + 1, 1, none⟩ = some (.int .i64 5) ∧ wx.cell? ⟨w.heap.size + 1, 2, none⟩ = some (.int .i64 1) ∧ wx.cell? ⟨w.heap.size + 1, 3, none⟩ = some (.string ⟨#[116]⟩) ∧ wx.cell? ⟨w.heap.size + 1, 4, none⟩ = some (.string ⟨#[]⟩) ∧ wx.cell? ⟨w.heap.size + 1, 5, none⟩ = some (.int .i64 0) ∧ wx.cell? ⟨w.heap.size + 1, 6, none⟩ = some (.bool false) ∧ wx.cell? ⟨w.heap.size + 1, 7, none⟩ = some (.int .i64 0) ∧ wx.cell? ⟨w.heap.size + 1, 8, none⟩ = some (.int .i64 0) ∧ wx.cell? ⟨w.heap.size + 1, 9, none⟩ = some (.string ⟨#[]⟩) ∧ wx.cell? ⟨w.heap.size + 1, 10, none⟩ = some (.int .i64 0) ∧ wx.cell? ⟨w.heap.size + 1, 11, none⟩ = some (.slice none 0 0) := by
  have hc := h.cells
  refine ⟨h, ?_⟩
  refine ⟨?_, ?_, ?_, ?_, ?_, ?_, ?_, ?_, ?_, ?_, ?_, ?_, ?_, ?_, ?_, ?_, ?_⟩ <;> go_simp
theorem re14 : reasonE 2 1 10 5 0 14 = 0 := by simp [reasonE, expiredB, RowKit.wrap64]
theorem re15 : reasonE 2 1 10 5 0 15 = 2 := by simp [reasonE, expiredB, RowKit.wrap64]
theorem re5 : reasonE 2 2 10 5 0 5 = 4 := by simp [reasonE, expiredB, RowKit.wrap64]
def BoxM (W : World) (g : Nat) (s : Value) : Prop :=
  W.cell? ⟨g, 0, none⟩ = some (.string ⟨#[116]⟩) ∧ W.cell? ⟨g, 1, none⟩ = some (.string ⟨#[]⟩) ∧ W.cell? ⟨g, 2, none⟩ = some (.int .i64 0) ∧ W.cell? ⟨g, 3, none⟩ = some (.bool false) ∧ W.cell? ⟨g, 4, none⟩ = some (.int .i64 0) ∧ W.cell? ⟨g, 5, none⟩ = some (.int .i64 0) ∧ W.cell? ⟨g, 6, none⟩ = some (.string ⟨#[]⟩) ∧ W.cell? ⟨g, 7, none⟩ = some (.int .i64 0) ∧ W.cell? ⟨g, 8, none⟩ = some s
theorem BoxM.ext {W W' : World} {g : Nat} {s : Value} (h : BoxM W g s) (he : Ext W W') : BoxM W' g s :=
  ⟨he.cell h.1, he.cell h.2.1, he.cell h.2.2.1, he.cell h.2.2.2.1, he.cell h.2.2.2.2.1, he.cell h.2.2.2.2.2.1, he.cell h.2.2.2.2.2.2.1, he.cell h.2.2.2.2.2.2.2.1, he.cell h.2.2.2.2.2.2.2.2⟩
theorem split_E (w : World) : Calls Tryd.prog 27 #[.string ⟨#[97, 98, 99, 100, 101, 102, 103, 104]⟩, .string ⟨#[]⟩] w fun e w' => ∃ B, w.heap.size ≤ B ∧ e = .returned (.slice (some ⟨B, 0, none⟩) 8 8) ∧ B < w'.heap.size ∧ (∀ j (h : j < 8), w'.cell? ⟨B, j, none⟩ = some (.string (fullL[j]'h).1)) ∧ Ext w w' := by
  refine (Tryd.strings_Split_chars ⟨#[97, 98, 99, 100, 101, 102, 103, 104]⟩ ⟨#[]⟩ w rfl (by decide) ?_).mono fun e w' ⟨he, hw⟩ => ?_
  · intro j b hj
    have : b ∈ [97, 98, 99, 100, 101, 102, 103, (104 : UInt8)] := List.mem_of_getElem? hj
    simp at this
    rcases this with rfl | rfl | rfl | rfl | rfl | rfl | rfl | rfl <;> decide
  · subst hw
    have hch : (Lib.charsB ⟨#[97, 98, 99, 100, 101, 102, 103, 104]⟩).map Value.string = fullL.map fun p => Value.string p.1 := by rfl
    rw [hch]
    refine ⟨_, ?_, he, ?_, ?_, ?_⟩
    · simp [World.iter]
    · simp
    · intro j h
      rw [World.cell?_alloc_new]
      match j, h with
      | 0, _ => rfl
      | 1, _ => rfl
      | 2, _ => rfl
      | 3, _ => rfl
      | 4, _ => rfl
      | 5, _ => rfl
      | 6, _ => rfl
      | 7, _ => rfl
    · exact ((Ext.refl w).alloc _).alloc _
/-- What lasts from round to round of the examples' loop. -/
structure LoopR (g g11 Bk base : Nat) (A : Option Addr) (c : Nat) (w W : World) (k : Nat) (v : Value) : Prop where
  box : BoxM W g (.slice A 2 c)
  cur : BoxM W g11 v
  frz : W.frozen? ⟨g11, 8, none⟩ = false
  rd : Rd encP 2 W A (mkL 50 112 50)
  keys : ∀ j (h : j < 8), W.cell? ⟨Bk, j, none⟩ = some (.string (fullL[j]'h).1)
  own : Own encP 2 35 base W v (fullL.take k)
  ext : Ext w W
  size : base ≤ W.heap.size
theorem Rd.below {α : Type} {enc : α → List Value} {k base : Nat} {w w1 : World} {A : Option Addr} {l : List α} (h : Rd enc k w A l) (hA : ∀ a, A = some a → a.block < base) (hb : Below base w w1) : Rd enc k w1 A l := fun hl => by
  obtain ⟨b, off, he, hlt, hc⟩ := h hl
  have hbb : b < base := hA _ he
  exact ⟨b, off, he, Nat.lt_of_lt_of_le hlt hb.size, fun j hj i u hu => (hb.cell (p := ⟨b, off + j * k + i, none⟩) hbb).trans (hc j hj i u hu)⟩
theorem Rd.setne {α : Type} {enc : α → List Value} {k : Nat} {w : World} {A : Option Addr} {l : List α} (h : Rd enc k w A l) {p : Addr} (v : Value) (hp : ∀ a, A = some a → p.block ≠ a.block) : Rd enc k (w.setCell p v) A l := fun hl => by
  obtain ⟨b, off, hA, hb, hc⟩ := h hl
  exact ⟨b, off, hA, by simpa using hb, fun j hj i u hu => (World.cell?_setCell_other _ _ _ _ (fun e => by have := hp _ hA; rw [e] at this; simp at this)).trans (hc j hj i u hu)⟩
theorem BoxM.below {base : Nat} {W W' : World} {g : Nat} {s : Value} (h : BoxM W g s) (hb : Below base W W') (hg : g < base) : BoxM W' g s := by
  have key : ∀ o u, W.cell? ⟨g, o, none⟩ = some u → W'.cell? ⟨g, o, none⟩ = some u := fun o u hu => (hb.cell (p := ⟨g, o, none⟩) hg).trans hu
  obtain ⟨h0, h1, h2, h3, h4, h5, h6, h7, h8⟩ := h
  exact ⟨key _ _ h0, key _ _ h1, key _ _ h2, key _ _ h3, key _ _ h4, key _ _ h5, key _ _ h6, key _ _ h7, key _ _ h8⟩
theorem BoxM.setne {W : World} {g : Nat} {s : Value} (h : BoxM W g s) {p : Addr} (hp : p.block ≠ g) (v : Value) : BoxM (W.setCell p v) g s := by
  have key : ∀ o u, W.cell? ⟨g, o, none⟩ = some u → (W.setCell p v).cell? ⟨g, o, none⟩ = some u := fun o u hu => (World.cell?_setCell_other _ _ _ _ (fun e => hp (by rw [e]))).trans hu
  obtain ⟨h0, h1, h2, h3, h4, h5, h6, h7, h8⟩ := h
  exact ⟨key _ _ h0, key _ _ h1, key _ _ h2, key _ _ h3, key _ _ h4, key _ _ h5, key _ _ h6, key _ _ h7, key _ _ h8⟩
theorem BoxM.set8 {W : World} {g : Nat} {s : Value} (h : BoxM W g s) (v : Value) : BoxM (W.setCell ⟨g, 8, none⟩ v) g v := by
  have key : ∀ o u, o ≠ 8 → W.cell? ⟨g, o, none⟩ = some u → (W.setCell ⟨g, 8, none⟩ v).cell? ⟨g, o, none⟩ = some u := fun o u ho hu => (World.cell?_setCell_other _ _ _ _ (fun e => ho (by injection e with _ e2 _; exact e2.symm))).trans hu
  obtain ⟨h0, h1, h2, h3, h4, h5, h6, h7, h8⟩ := h
  exact ⟨key _ _ (by decide) h0, key _ _ (by decide) h1, key _ _ (by decide) h2, key _ _ (by decide) h3, key _ _ (by decide) h4, key _ _ (by decide) h5, key _ _ (by decide) h6, key _ _ (by decide) h7, World.cell?_setCell_same _ _ _ h8⟩
theorem grown_set (w : World) (p : Addr) (v : Value) : w.grownBy (w.setCell p v) (some p.block) :=
  ⟨rfl, rfl, rfl, by simp, fun i hi hne => Below.heap_setCell w p v i (fun e => hne (by rw [e]))⟩
theorem LoopR.step {g g11 Bk base : Nat} {A : Option Addr} {c : Nat} {w W w1 : World} {k : Nat} {v v1 : Value} (h : LoopR g g11 Bk base A c w W k v)
    (hw : w.heap.size ≤ g11) (hg : g < g11) (hB : g11 < Bk) (hb : Bk < base) (hA : ∀ a, A = some a → a.block < g11)
    (hE : Below base W w1) (ho : Own encP 2 35 base w1 v1 (fullL.take (k + 1))) : LoopR g g11 Bk base A c w (w1.setCell ⟨g11, 8, none⟩ v1) (k + 1) v1 where
  box := (h.box.below hE (by omega)).setne (by show g11 ≠ g; omega) _
  cur := (h.cur.below hE (by omega)).set8 _
  frz := (World.frozen?_setCell _ _ _ _).trans ((hE.frozen (p := ⟨g11, 8, none⟩) (by show g11 < base; omega)).trans h.frz)
  rd := (h.rd.below (fun a ha => by have := hA a ha; omega) hE).setne _ (fun a ha => by have := hA a ha; show g11 ≠ a.block; omega)
  keys := fun j hj => (World.cell?_setCell_other _ _ _ _ (fun e => by injection e with e1 _ _; omega)).trans ((hE.cell (p := ⟨Bk, j, none⟩) (by show Bk < base; omega)).trans (h.keys j hj))
  own := ho.kept (grown_set _ _ _) (by
    cases hv : v1.ownBlock with
    | none => exact .inl rfl
    | some b => exact .inr (fun e => by injection e with e; have := ho.base b hv; simp at e; omega))
  ext := Ext.set (Ext.of (Below.trans (Ext.below h.ext) (hE.mono (by omega)))) hw _
  size := by simpa using Nat.le_trans h.size hE.size
theorem rd_one (W : World) (a b : ByteArray) : Rd encP 2 (W.alloc (.cells #[.string a, .string b] 35)) (some ⟨W.heap.size, 0, none⟩) [(a, b)] := fun _ =>
  ⟨W.heap.size, 0, rfl, by simp, fun j hj i u hu => by
    match j, hj, i, hu with
    | 0, _, 0, hu => simp [encP] at hu; subst hu; simp
    | 0, _, 1, hu => simp [encP] at hu; subst hu; simp
    | 0, _, i + 2, hu => simp [encP] at hu
    | j + 1, hj, _, _ => simp at hj⟩
theorem rd_one' (W : World) (a b : ByteArray) (n : Nat) (hn : W.heap.size = n) : Rd encP 2 (W.alloc (.cells #[.string a, .string b] 35)) (some ⟨n, 0, none⟩) [(a, b)] := hn ▸ rd_one W a b
theorem mark4' (W : World) (n : Nat) (hn : W.heap.size = n) (hg : Glob W) : Calls Tryd.prog 19 #[.string ⟨#[113]⟩, .agg #[.string ⟨#[116]⟩, .string ⟨#[]⟩, .int .i64 0, .bool false, .int .i64 0, .int .i64 0, .string ⟨#[]⟩, .int .i64 0, .slice (some ⟨n, 0, none⟩) 1 1], .int .i64 3] (W.alloc (.cells #[.string ⟨#[100, 101, 97, 116, 104, 115]⟩, .string ⟨#[48, 55]⟩] 35)) fun e w' => ∃ A' c', e = .returned (.agg #[.string ⟨#[116]⟩, .string ⟨#[]⟩, .int .i64 0, .bool false, .int .i64 0, .int .i64 0, .string ⟨#[]⟩, .int .i64 0, .slice A' 2 c']) ∧ Rd encP 2 w' A' (mkL 49 113 51) ∧ Ext W w' :=
  (mark4 _ (hg.ext ((Ext.refl _).alloc _)) _ _ (rd_one' W kDeaths ⟨#[48, 55]⟩ n hn)).mono fun e w' ⟨A', c', he, hr, hE⟩ => ⟨A', c', he, hr, ((Ext.refl _).alloc _).trans hE⟩
theorem again_c (A : Option Addr) (c : Nat) (w : World) (hr : Rd encP 2 w A (mkL 50 112 50)) :
    Calls Tryd.prog 16 #[msgV ⟨#[116]⟩ (.slice A 2 c)] w fun e w' => e = .returned (.bool true) ∧ Ext w w' :=
  (dead_Again _ _ _ _ _ _ _ _ A c (mkL 50 112 50) w (by simp [maxLen]) (by simp [PrFit, maxLen]; decide) hr).mono fun e w' ⟨he, hE⟩ => ⟨he.trans (ret_bool (by simp [deathsE, deathsL, getV, getP, leadB, numL, digitB])), hE⟩
theorem full_at (k : Nat) (h : k < 8) : ∃ kb : ByteArray, fullL[k]'h = (kb, ⟨#[]⟩) ∧ fullL.take (k + 1) = fullL.take k ++ [(kb, ⟨#[]⟩)] ∧ (fullL.take k).length = k := by
  match k, h with
  | 0, _ => exact ⟨_, rfl, rfl, rfl⟩
  | 1, _ => exact ⟨_, rfl, rfl, rfl⟩
  | 2, _ => exact ⟨_, rfl, rfl, rfl⟩
  | 3, _ => exact ⟨_, rfl, rfl, rfl⟩
  | 4, _ => exact ⟨_, rfl, rfl, rfl⟩
  | 5, _ => exact ⟨_, rfl, rfl, rfl⟩
  | 6, _ => exact ⟨_, rfl, rfl, rfl⟩
  | 7, _ => exact ⟨_, rfl, rfl, rfl⟩
set_option maxRecDepth 100000 in
set_option maxHeartbeats 3200000 in
theorem example_holds (w : World) (hg : Glob w) : Calls Tryd.prog 9 #[] w fun e w' => e = .returned (.bool true) ∧ Ext w w' := by
  have HGl := Lib.hid hg; clear hg
  go_enter Tryd.func9, Tryd.ntmps9
  go_upto_region 3 with fail
  go_cut [3, 4] (fun s3 s4 wx => s3 = .int .i64 0 ∧ s4 = .int .i64 2 ∧ Ext ((w.alloc (.cells #[.string ⟨#[113]⟩, .int .i64 1, .int .i64 10, .int .i64 2, .string ⟨#[]⟩] 23)).alloc (.cells #[.int .i64 1, .int .i64 5, .int .i64 1, .string ⟨#[116]⟩, .string ⟨#[]⟩, .int .i64 0, .bool false, .int .i64 0, .int .i64 0, .string ⟨#[]⟩, .int .i64 0, .slice none 0 0] 28)) wx)
  case first =>
    go_region_held3 (fun wx => Ext ((w.alloc (.cells #[.string ⟨#[113]⟩, .int .i64 1, .int .i64 10, .int .i64 2, .string ⟨#[]⟩] 23)).alloc (.cells #[.int .i64 1, .int .i64 5, .int .i64 1, .string ⟨#[116]⟩, .string ⟨#[]⟩, .int .i64 0, .bool false, .int .i64 0, .int .i64 0, .string ⟨#[]⟩, .int .i64 0, .slice none 0 0] 28)) wx ∧ wx.cell? ⟨w.heap.size, 0, none⟩ = some (.string ⟨#[113]⟩) ∧ wx.cell? ⟨w.heap.size, 1, none⟩ = some (.int .i64 1) ∧ wx.cell? ⟨w.heap.size, 2, none⟩ = some (.int .i64 10) ∧ wx.cell? ⟨w.heap.size, 3, none⟩ = some (.int .i64 2) ∧ wx.cell? ⟨w.heap.size, 4, none⟩ = some (.string ⟨#[]⟩) ∧ wx.cell? ⟨w.heap.size + 1, 0, none⟩ = some (.int .i64 1) ∧ wx.cell? ⟨w.heap.size + 1, 1, none⟩ = some (.int .i64 5) ∧ wx.cell? ⟨w.heap.size + 1, 2, none⟩ = some (.int .i64 1) ∧ wx.cell? ⟨w.heap.size + 1, 3, none⟩ = some (.string ⟨#[116]⟩) ∧ wx.cell? ⟨w.heap.size + 1, 4, none⟩ = some (.string ⟨#[]⟩) ∧ wx.cell? ⟨w.heap.size + 1, 5, none⟩ = some (.int .i64 0) ∧ wx.cell? ⟨w.heap.size + 1, 6, none⟩ = some (.bool false) ∧ wx.cell? ⟨w.heap.size + 1, 7, none⟩ = some (.int .i64 0) ∧ wx.cell? ⟨w.heap.size + 1, 8, none⟩ = some (.int .i64 0) ∧ wx.cell? ⟨w.heap.size + 1, 9, none⟩ = some (.string ⟨#[]⟩) ∧ wx.cell? ⟨w.heap.size + 1, 10, none⟩ = some (.int .i64 0) ∧ wx.cell? ⟨w.heap.size + 1, 11, none⟩ = some (.slice none 0 0)) (first | exact ex_S _ _ (Ext.refl _).drew | exact ex_S _ _ (Ext.trans (Ext.refl _).drew hE) | exact ex_S _ _ (Ext.trans (Ext.trans (Ext.refl _).drew (by assumption)) hE))
      ((go_at_call 10; refine (dead_Reason _ _ _ _ _ _ _ _ _ _ _ _ _ _ _ _ _ _ _ _ _).mono ?_; rintro e w1 ⟨rfl, hE⟩; first | have HX2 := Lib.hid (HX1.out.trans hE) | have HX1 := Lib.hid (Ext.trans (Ext.refl _).drew hE)))
    all_goals (go_wp2_with fail; go_meet; exact ⟨congrArg _ re14, congrArg _ re15, HX2.out⟩)
  case rest =>
    obtain ⟨rfl, rfl, hX⟩ := hcut
    have hc := hX.cells
    have hf := hX.frozens
    have hz0_0 : w.heap.size < wc.heap.size := (by have := hX.size; (try simp at this); omega)
    have hz0_1 : w.heap.size + 1 < wc.heap.size := (by have := hX.size; (try simp at this); omega)
    have hss := set_same
    have HX := Lib.hid ((Ext.trans (((Ext.refl w).alloc _).alloc _) hX).set (p := ⟨w.heap.size + 1, 2, none⟩) (Nat.le_succ _) (.int .i64 2))
    clear hX
    go_upto_region 11 with (first
      | (go_at_call_of 19 (Value.string ⟨#[113]⟩); refine (mark1 _ (HGl.out.ext HX.out)).mono ?_; rintro e w1 ⟨A1, c1, rfl, hR, hE⟩; have HX := Lib.hid (HX.out.trans hE); have HR1 := Lib.hid hR; clear hR; have hc1 := hE.cells; have hf1 := hE.frozens; have hz1_0 : w.heap.size < w1.heap.size := (by have := hE.size; (try simp at this); omega); have hz1_1 : w.heap.size + 1 < w1.heap.size := (by have := hE.size; (try simp at this); omega); clear hE)
      | (go_at_call_of 19 (Value.string ⟨#[112]⟩); refine (mark2 _ (HGl.out.ext (HX.out.alloc _)) A1 c1 (HR1.out.ext ((Ext.refl _).alloc _))).mono ?_; rintro e w2 ⟨A2, c2, rfl, hR, hE⟩; have HX := Lib.hid ((HX.out.alloc _).trans hE); have HR1 := Lib.hid (HR1.out.ext (Ext.trans ((Ext.refl _).alloc _) hE)); have HR2 := Lib.hid hR; clear hR; have hc2 := hE.cells; have hf2 := hE.frozens; have hz2_0 : w.heap.size < w2.heap.size := (by have := hE.size; (try simp at this); omega); have hz2_1 : w.heap.size + 1 < w2.heap.size := (by have := hE.size; (try simp at this); omega); have hz2_2 : w1.heap.size < w2.heap.size := (by have := hE.size; (try simp at this); omega); clear hE)
      | (go_at_call_of 12 A1; refine (from1 A1 c1 _ (HR1.out.ext ((Ext.refl _).alloc _)) (HGl.out.ext (HX.out.alloc _))).mono ?_; rintro e w3 ⟨rfl, hE⟩; have HX := Lib.hid ((HX.out.alloc _).trans hE); have HR1 := Lib.hid (HR1.out.ext (Ext.trans ((Ext.refl _).alloc _) hE)); have HR2 := Lib.hid (HR2.out.ext (Ext.trans ((Ext.refl _).alloc _) hE)); have hc3 := hE.cells; have hf3 := hE.frozens; have hz3_0 : w.heap.size < w3.heap.size := (by have := hE.size; (try simp at this); omega); have hz3_1 : w.heap.size + 1 < w3.heap.size := (by have := hE.size; (try simp at this); omega); have hz3_2 : w1.heap.size < w3.heap.size := (by have := hE.size; (try simp at this); omega); have hz3_3 : w2.heap.size < w3.heap.size := (by have := hE.size; (try simp at this); omega); clear hE)
      | (go_at_call_of 12 A2; refine (from2 A2 c2 _ HR2.out (HGl.out.ext HX.out)).mono ?_; rintro e w4 ⟨rfl, hE⟩; have HX := Lib.hid (HX.out.trans hE); have HR1 := Lib.hid (HR1.out.ext hE); have HR2 := Lib.hid (HR2.out.ext hE); have hc4 := hE.cells; have hf4 := hE.frozens; have hz4_0 : w.heap.size < w4.heap.size := (by have := hE.size; (try simp at this); omega); have hz4_1 : w.heap.size + 1 < w4.heap.size := (by have := hE.size; (try simp at this); omega); have hz4_2 : w1.heap.size < w4.heap.size := (by have := hE.size; (try simp at this); omega); have hz4_3 : w2.heap.size < w4.heap.size := (by have := hE.size; (try simp at this); omega); clear hE)
      | (go_at_call 10; refine (reason5 _).mono ?_; rintro e w5 ⟨rfl, hE⟩; have HX := Lib.hid (HX.out.trans hE); have HR1 := Lib.hid (HR1.out.ext hE); have HR2 := Lib.hid (HR2.out.ext hE); have hc5 := hE.cells; have hf5 := hE.frozens; have hz5_0 : w.heap.size < w5.heap.size := (by have := hE.size; (try simp at this); omega); have hz5_1 : w.heap.size + 1 < w5.heap.size := (by have := hE.size; (try simp at this); omega); have hz5_2 : w1.heap.size < w5.heap.size := (by have := hE.size; (try simp at this); omega); have hz5_3 : w2.heap.size < w5.heap.size := (by have := hE.size; (try simp at this); omega); clear hE)
      | (go_at_call_of 14 A1; refine (deaths_c 49 1 113 49 A1 c1 _ HR1.out (by simp [deathsE, deathsL, getV, getP, leadB, numL, digitB])).mono ?_; rintro e w6 ⟨rfl, hE⟩; have HX := Lib.hid (HX.out.trans hE); have HR1 := Lib.hid (HR1.out.ext hE); have HR2 := Lib.hid (HR2.out.ext hE); have hc6 := hE.cells; have hf6 := hE.frozens; have hz6_0 : w.heap.size < w6.heap.size := (by have := hE.size; (try simp at this); omega); have hz6_1 : w.heap.size + 1 < w6.heap.size := (by have := hE.size; (try simp at this); omega); have hz6_2 : w1.heap.size < w6.heap.size := (by have := hE.size; (try simp at this); omega); have hz6_3 : w2.heap.size < w6.heap.size := (by have := hE.size; (try simp at this); omega); clear hE)
      | (go_at_call_of 14 A2; refine (deaths_c 50 2 112 50 A2 c2 _ HR2.out (by simp [deathsE, deathsL, getV, getP, leadB, numL, digitB])).mono ?_; rintro e w7 ⟨rfl, hE⟩; have HX := Lib.hid (HX.out.trans hE); have HR1 := Lib.hid (HR1.out.ext hE); have HR2 := Lib.hid (HR2.out.ext hE); have hc7 := hE.cells; have hf7 := hE.frozens; have hz7_0 : w.heap.size < w7.heap.size := (by have := hE.size; (try simp at this); omega); have hz7_1 : w.heap.size + 1 < w7.heap.size := (by have := hE.size; (try simp at this); omega); have hz7_2 : w1.heap.size < w7.heap.size := (by have := hE.size; (try simp at this); omega); have hz7_3 : w2.heap.size < w7.heap.size := (by have := hE.size; (try simp at this); omega); clear hE))
    go_cut [6, 11] (fun s6 s11 wx => ∃ (g g11 : Nat) (A : Option Addr) (c : Nat), s6 = .pointer (some ⟨g, 0, none⟩) ∧ s11 = .pointer (some ⟨g11, 0, none⟩) ∧ g < g11 ∧ g11 < wx.heap.size ∧ w.heap.size ≤ g11 ∧ wx.frozen? ⟨g11, 8, none⟩ = false ∧ (∀ a, A = some a → a.block < g11) ∧ BoxM wx g (.slice A 2 c) ∧ BoxM wx g11 (.slice none 0 0) ∧ Rd encP 2 wx A (mkL 50 112 50) ∧ Ext w wx)
    case first =>
      have HA2 : Hid (∀ a, A2 = some a → a.block < w7.heap.size) := Lib.hid (fun a ha => by obtain ⟨b, off, e, hb, _⟩ := HR2.out (by simp); rw [ha] at e; injection e with e; subst e; exact hb)
      go_wp2_with fail
      go_meet
      exact ⟨w2.heap.size, w7.heap.size, A2, c2, rfl, rfl, hz7_3, by simp, by omega, by go_simp, HA2.out, ⟨by go_simp, by go_simp, by go_simp, by go_simp, by go_simp, by go_simp, by go_simp, by go_simp, by go_simp⟩, ⟨by go_simp, by go_simp, by go_simp, by go_simp, by go_simp, by go_simp, by go_simp, by go_simp, by go_simp⟩, HR2.out.ext ((Ext.refl _).alloc _), HX.out.alloc _⟩
    case rest =>
      obtain ⟨g, g11, A, c, rfl, rfl, hgg, hg11, hwg, hfr, hA, hb6, hb11, hrd, hE⟩ := hcut
      have HB6 := Lib.hid hb6
      have HB11 := Lib.hid hb11
      have HR := Lib.hid hrd
      have HA := Lib.hid hA
      have HX := Lib.hid hE
      have HF := Lib.hid hfr
      clear hb6 hb11 hrd hE hA hfr
      go_upto_block 2 with (first
        | (go_at_call 27; refine (split_E _).mono ?_; rintro e ws ⟨Bk, hBk, rfl, hBl, hkeys, hE⟩; have HK := Lib.hid hkeys; have HE := Lib.hid hE; clear hkeys hE))
      have hB2 : g11 < Bk := by omega
      obtain ⟨base, hbase⟩ : ∃ base, base = ws.heap.size := ⟨_, rfl⟩
      have HBase := Lib.hid hbase
      have hBk2 : Bk < base := by omega
      clear hbase
      have HLR : Hid (LoopR g g11 Bk base A c w ws 0 (.slice none 0 0)) := Lib.hid
        { box := HB6.out.ext HE.out, cur := HB11.out.ext HE.out, frz := (HE.out.frozen (p := ⟨g11, 8, none⟩) hg11).trans HF.out, rd := HR.out.ext HE.out, keys := HK.out,
          own := by rw [List.take_zero]; exact Own.nil _ _ _ _ _, ext := HX.out.trans HE.out, size := by rw [HBase.out]; exact Nat.le_refl _ }
      clear HB6 HB11 HR HK HX HF HBase
      go_loopw [82] (fun t wr => ∃ k : Nat, k ≤ 8 ∧ t = .int .i64 k ∧ ∃ v, LoopR g g11 Bk base A c w wr k v) (fun t _ => 8 - (intOf t).toNat)
      case atStart => exact ⟨0, by omega, rfl, _, HLR.out⟩
      case round =>
        obtain ⟨k, hk, rfl, v, hL⟩ := hrel
        by_cases hlt : k < 8
        · obtain ⟨kb, hkb, htk, hlen⟩ := full_at k hlt
          have hkey := hL.keys k hlt
          rw [hkb] at hkey
          obtain ⟨A', cc, rfl, hcc1, hcc2, _⟩ := hL.own.rd encP_len
          have hO := hL.own
          have HTK := Lib.hid htk; clear htk hkb
          have hcell := hL.cur.2.2.2.2.2.2.2.2
          have hfrz := hL.frz
          have hsz := hL.size
          have HO := Lib.hid hO; clear hO
          have HL := Lib.hid hL; clear hL
          generalize hLk : fullL.take k = Lk at *
          clear hLk
          unfold maxLen at hcc2
          have HLen := Lib.hid hlen; clear hlen
          go_wp2_with (first
            | (at_builtin; refine wp_append1 encP (w0 := wr) base (by rfl) _ _ 24 35 (.agg #[.string ByteArray.empty, .string ByteArray.empty]) 2 32 (by rfl) Tryd.underlying24 Tryd.infoP rfl (by decide) (by decide) encP_len encP_one _ Lk (kb, ⟨#[]⟩) (by rfl) (by rfl) HO.out (Below.refl _ _) hsz (by rw [HLen.out]; omega) ?_; intro v1 w2 HO1 HB1 hg1 _; obtain ⟨A3, cc3, rfl, _, _, _⟩ := HO1.rd encP_len; have HOO := Lib.hid HO1; have HBB := Lib.hid HB1; clear HO1; have hc8 := (HB1.cell (p := ⟨g11, 8, none⟩) (by show g11 < base; omega)).trans hcell; have hf8 := (HB1.frozen (p := ⟨g11, 8, none⟩) (by show g11 < base; omega)).trans hfrz))
          go_roundw
          case rel => exact ⟨k + 1, by omega, by go_num, _, HL.out.step hwg hgg hB2 hBk2 HA.out HBB.out (by rw [HTK.out]; have h := HOO.out; rw [List.length_append, List.length_singleton] at h; exact h)⟩
          case measure => simp [intOf]; omega
        · have hk8 : k = 8 := by omega
          subst hk8
          have HL := Lib.hid hL
          clear hL
          have hown : Own encP 2 35 base wr v fullL := HL.out.own
          obtain ⟨A4, c4, hv, _, _, hr4⟩ := hown.rd encP_len
          have hv' : v = .slice A4 8 c4 := hv
          clear hv hown
          subst hv'
          have HR4 := Lib.hid hr4; clear hr4
          have HRg := Lib.hid HL.out.rd
          have HLx := Lib.hid HL.out.ext
          obtain ⟨p0, p1, p2, p3, p4, p5, p6, p7, p8⟩ := HL.out.box
          obtain ⟨q0, q1, q2, q3, q4, q5, q6, q7, q8⟩ := HL.out.cur
          have hzg := World.block_lt_of_cell? _ _ p0
          have hzh := World.block_lt_of_cell? _ _ q0
          go_wp2_with (first
            | (go_at_call_of 19 A4; refine (mark3 _ (HGl.out.ext HLx.out) A4 c4 HR4.out).mono ?_; rintro e w8 ⟨A5, c5, rfl, hR, hE⟩; have HLx := Lib.hid (HLx.out.trans hE); have HRg := Lib.hid (HRg.out.ext hE); obtain ⟨b5, off5, hA5, hb5, hcc5⟩ := hR (by simp); subst hA5; have hq3 : w8.cell? ⟨b5, off5 + 6, none⟩ = some (.string ⟨#[100]⟩) := hcc5 3 (by simp) 0 _ rfl; have hq4 : w8.cell? ⟨b5, off5 + 8, none⟩ = some (.string kDeaths) := hcc5 4 (by simp) 0 _ rfl; have hq7 : w8.cell? ⟨b5, off5 + 14, none⟩ = some (.string ⟨#[102]⟩) := hcc5 7 (by simp) 0 _ rfl; clear hR hcc5; have hc8 := hE.cells; have hf8 := hE.frozens; have hzg8 : g < w8.heap.size := (by have := hE.size; omega); have hzh8 : g11 < w8.heap.size := (by have := hE.size; omega); have T8 := Lib.hid (mark4' (w8.alloc (.cells #[.string ⟨#[116]⟩, .string ⟨#[]⟩, .int .i64 0, .bool false, .int .i64 0, .int .i64 0, .string ⟨#[]⟩, .int .i64 0, .slice (some ⟨b5, off5, none⟩) 8 c5] 26)) (w8.heap.size + 1) (by simp) (HGl.out.ext (HLx.out.alloc _))); clear hE)
            | (go_at_call 19; refine Calls.mono T8.out ?_; rintro e w9 ⟨A6, c6, rfl, hR, hE⟩; have HLx := Lib.hid ((HLx.out.alloc _).trans hE); have HRg := Lib.hid (HRg.out.ext (((Ext.refl _).alloc _).trans hE)); have HR6 := Lib.hid hR; clear hR; have hc9 := hE.cells; have hf9 := hE.frozens; have hzg9 : g < w9.heap.size := (by have := hE.size; (try simp at this); omega); have hzh9 : g11 < w9.heap.size := (by have := hE.size; (try simp at this); omega); have hzi9 : w8.heap.size < w9.heap.size := (by have := hE.size; (try simp at this); omega); have hzb9 : b5 < w9.heap.size := (by have := hE.size; (try simp at this); omega); clear hE)
            | (go_at_call 14; refine (deaths_c 49 1 113 51 A6 c6 _ (HR6.out.ext ((Ext.refl _).alloc _)) (by simp [deathsE, deathsL, getV, getP, leadB, numL, digitB])).mono ?_; rintro e w10 ⟨rfl, hE⟩; have HLx := Lib.hid ((HLx.out.alloc _).trans hE); have HRg := Lib.hid (HRg.out.ext (((Ext.refl _).alloc _).trans hE)); have hc10 := hE.cells; have hf10 := hE.frozens; have hzg10 : g < w10.heap.size := (by have := hE.size; (try simp at this); omega); clear hE)
            | (go_at_call 16; refine (again_c A c _ HRg.out).mono ?_; rintro e w11 ⟨rfl, hE⟩; have HLx := Lib.hid (HLx.out.trans hE); clear hE))
          go_ret
          exact ⟨ret_bool (by simp), HLx.out⟩
end Go.Proofs.YthilbmdpbmkakaaDoor
