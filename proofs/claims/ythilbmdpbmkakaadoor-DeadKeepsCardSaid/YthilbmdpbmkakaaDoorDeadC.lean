/- Contracts of chapter 28: the reference's get and Deaths; Again; Reason of both. -/
import Derived.Test.YthilbmdpbmkakaaDoorDeadB
set_option linter.unusedVariables false
set_option linter.unusedSimpArgs false
namespace Go.Proofs.YthilbmdpbmkakaaDoor
open Go Go.RowKit

theorem itoa_str (n : Int) (h0 : -9223372036854775808 ≤ n) (h1 : n ≤ 9223372036854775807) (w : World) (hg : Glob w) :
    Calls Tryd.prog 34 #[.int .i64 n] w fun e w' => ∃ z : ByteArray, e = .returned (.string z) ∧ z.data.toList = Lib.itoa n ∧ Ext w w' :=
  (itoa_ext n h0 h1 w hg).mono fun e w' ⟨he, hE⟩ => ⟨_, he, by simp, hE⟩

theorem ret_s {a b : ByteArray} (h : a = b) : Ending.returned (.string a) = .returned (.string b) := by rw [h]
set_option maxRecDepth 100000 in
set_option maxHeartbeats 800000 in
theorem ref_get (t p : ByteArray) (lv : Int) (rt : Bool) (pr ex : Int) (fr : ByteArray) (sq : Int) (A : Option Addr) (c : Nat) (l : List Pr) (k : ByteArray) (w : World) (hl : l.length ≤ maxLen) (hr : Rd encP 2 w A l) :
    Calls Tryd.prog 33 #[.agg #[.string t, .string p, .int .i64 lv, .bool rt, .int .i64 pr, .int .i64 ex, .string fr, .int .i64 sq, .slice A l.length c], .string k] w fun e w' => e = .returned (.string (getV l k)) ∧ Ext w w' := by
  unfold maxLen at hl
  have HRd := Lib.hid hr; clear hr
  go_enter Tryd.func33, Tryd.ntmps33
  go_wp2
  go_loopw [10] (fun i wr => ∃ j : Nat, j ≤ l.length ∧ i = .int .i64 j ∧ Ext w wr ∧ getP (l.drop 0) k = getP (l.drop j) k) (fun i _ => l.length - (intOf i).toNat)
  case atStart => exact ⟨0, by omega, rfl, (Ext.refl _).alloc _, rfl⟩
  case round =>
    obtain ⟨j, hj, rfl, hE, hinv⟩ := hrel
    have HE := Lib.hid hE; clear hE
    have HI := Lib.hid hinv; clear hinv
    by_cases hlt : j < l.length
    · have HS := Lib.hid (get_step l j hlt k)
      obtain ⟨b, off, rfl, hb, c1, c2⟩ := (Rd.ext HRd.out HE.out).pr hlt
      cases hk : (l[j].1.toList == k.toList) with
      | true =>
        have HF : Hid (getP l k = some l[j].2) := Lib.hid (by have := HI.out; rw [List.drop_zero] at this; rw [this, HS.out, if_pos hk])
        go_wp2
        go_ret
        exact ⟨ret_s (by rw [getV, HF.out]; rfl), HE.out.alloc _⟩
      | false =>
        go_wp2
        go_roundw
        case rel => exact ⟨j + 1, by omega, by go_num, HE.out.alloc _, by rw [HI.out, HS.out, if_neg (by rw [hk]; decide)]⟩
        case measure => simp [intOf]; omega
    · have HF : Hid (getP l k = none) := Lib.hid (by have := HI.out; rw [List.drop_zero] at this; rw [this, List.drop_of_length_le (by omega)]; rfl)
      go_wp2
      go_ret
      exact ⟨ret_s (by rw [getV, HF.out]; rfl), HE.out⟩

theorem getV_fit : ∀ (l : List Pr) (k : ByteArray), PrFit l → (getV l k).size ≤ maxLen
  | [], k, _ => by simp [getV, getP, maxLen]
  | q :: l, k, hq => by
    simp only [getV, getP]
    split
    · exact (hq q (by simp)).2
    · exact getV_fit l k (fun x hx => hq x (List.mem_cons_of_mem _ hx))

theorem lead_of (l : List UInt8) : leadB l = true ↔ (l.head? = some 48 ∧ 1 < l.length) := by simp [leadB]
/-- What the reference's last test says. -/
theorem ref_fin {s z : ByteArray} {n : Nat} (h1 : ¬ s.size < 1) (h13 : ¬ 13 < s.size) (ha : s.data.toList.all digitB = true) (hn : n = numL s.data.toList) (hz : z.data.toList = Lib.itoa (n : Int)) :
    (z.toList = s.toList → deathsL s.data.toList = if 1099511627776 < n then 0 else (n : Int)) ∧ (¬ z.toList = s.toList → deathsL s.data.toList = 0) := by
  have hne : s.data.toList ≠ [] := by intro e; have := congrArg List.length e; rw [size_data, List.length_nil] at this; omega
  have hi := dec_num_iff s.data.toList hne ha
  rw [Lib.itoa_nonneg, hn] at hz
  rw [toList_data, toList_data, hz, hi, ← lead_of]
  constructor
  · intro h
    have : leadB s.data.toList = false := by simpa using h
    rw [deaths_fin s h1 h13 ha this, hn]
  · intro h
    exact deaths_lead s h1 h13 (by simpa using h)

set_option maxRecDepth 100000 in
set_option maxHeartbeats 3200000 in
theorem ref_Deaths (t p : ByteArray) (lv : Int) (rt : Bool) (pr ex : Int) (fr : ByteArray) (sq : Int) (A : Option Addr) (c : Nat) (l : List Pr) (w : World)
    (hl : l.length ≤ maxLen) (hf : PrFit l) (hr : Rd encP 2 w A l) (hg : Glob w) :
    Calls Tryd.prog 15 #[.agg #[.string t, .string p, .int .i64 lv, .bool rt, .int .i64 pr, .int .i64 ex, .string fr, .int .i64 sq, .slice A l.length c]] w fun e w' => e = .returned (.int .i64 (deathsE l)) ∧ Ext w w' := by
  have HRd := Lib.hid hr; clear hr
  have HGl := Lib.hid hg; clear hg
  have HG := fun (W : World) (hW : Ext w W) => ref_get t p lv rt pr ex fr sq A c l kDeaths W hl (HRd.out.ext hW)
  have HGet := Lib.hid HG; clear HG
  have HF : Hid (deathsE l = deathsL (getV l kDeaths).data.toList) := Lib.hid rfl
  have hsz := getV_fit l kDeaths hf
  generalize hv : getV l kDeaths = s at *
  clear hv hf
  unfold maxLen at hsz
  by_cases h1 : s.size < 1
  · have H0 : Hid (deathsL s.data.toList = 0) := Lib.hid (deaths_short s h1)
    go_enter Tryd.func15, Tryd.ntmps15
    go_wp2_with (first | (go_at_call 33; refine (HGet.out _ ((Ext.refl w).alloc _)).mono ?_; rintro e w1 ⟨rfl, hE⟩; have HX := Lib.hid (Ext.trans ((Ext.refl w).alloc _) hE); clear hE))
    go_ret
    exact ⟨ret_int (by rw [HF.out, H0.out]), HX.out⟩
  by_cases h13 : 13 < s.size
  · have H0 : Hid (deathsL s.data.toList = 0) := Lib.hid (deaths_long s h13)
    go_enter Tryd.func15, Tryd.ntmps15
    go_wp2_with (first | (go_at_call 33; refine (HGet.out _ ((Ext.refl w).alloc _)).mono ?_; rintro e w1 ⟨rfl, hE⟩; have HX := Lib.hid (Ext.trans ((Ext.refl w).alloc _) hE); clear hE))
    go_ret
    exact ⟨ret_int (by rw [HF.out, H0.out]), HX.out⟩
  have h13' : ¬ (13 : Int) < s.size := by omega
  have h1' : ¬ (s.size : Int) < 1 := by omega
  have hz : 0 < s.size := by omega
  go_enter Tryd.func15, Tryd.ntmps15
  go_wp2_with (first | (go_at_call 33; refine (HGet.out _ ((Ext.refl w).alloc _)).mono ?_; rintro e w1 ⟨rfl, hE⟩; have HX := Lib.hid (Ext.trans ((Ext.refl w).alloc _) hE); clear hE))
  go_loop [4, 18] (fun m i => ∃ n j : Nat, m = .int .i64 n ∧ i = .int .i64 j ∧ NumInv s n j) (fun _ i => s.size - (intOf i).toNat)
  case atStart => exact ⟨0, 0, rfl, rfl, NumInv.start s⟩
  case round =>
    obtain ⟨n, j, rfl, rfl, hI⟩ := hrel
    have hnb := hI.bound (by omega)
    have hjs := hI.1
    have HI := Lib.hid hI; clear hI
    by_cases hlt : j < s.size
    · cases hd : digitB s[j] with
      | false =>
        have H0 : Hid (deathsL s.data.toList = 0) := Lib.hid (deaths_bad s h1 h13 (all_bad s j hlt hd))
        have g : (s[j].toNat : Int) < 48 ∨ 57 < (s[j].toNat : Int) := by
          have : ¬ _ := fun h => Bool.false_ne_true (hd.symm.trans ((digitB_iff _).2 h))
          omega
        clear hd
        by_cases g1 : (s[j].toNat : Int) < 48
        · clear g
          go_wp2
          go_ret
          exact ⟨ret_int (by rw [HF.out, H0.out]), HX.out⟩
        · have g2 : 57 < (s[j].toNat : Int) := by omega
          clear g
          go_wp2
          go_ret
          exact ⟨ret_int (by rw [HF.out, H0.out]), HX.out⟩
      | true =>
        have hbd := digit_bd hd
        have HN2 := Lib.hid (HI.out.step hlt hd)
        have g1 : ¬ (s[j].toNat : Int) < 48 := by omega
        have g2 : ¬ 57 < (s[j].toNat : Int) := by omega
        have g3 : (48 : Int) ≤ s[j].toNat := by omega
        have g4 : (s[j].toNat : Int) ≤ 57 := by omega
        clear hd hbd
        have hfin : Hid (Value.int IntKind.i64 (10 * (n : Int) + ((s[j].toNat : Int) - 48)) = .int .i64 ((10 * n + (s[j].toNat - 48) : Nat) : Int)) := Lib.hid (by congr 1; omega)
        go_wp2
        go_round
        case rel => exact ⟨_, j + 1, by first | exact hfin.out | go_num, by go_num, HN2.out⟩
        case measure => simp [intOf]; omega
    · obtain ⟨ha, hn⟩ := HI.out.done hlt
      have HR := Lib.hid (fun z hz => ref_fin (z := z) h1 h13 ha hn hz)
      have hn0 : -9223372036854775808 ≤ (n : Int) := by omega
      have hn1 : (n : Int) ≤ 9223372036854775807 := by omega
      clear ha hn
      go_wp2_with (first | (go_at_call 34; refine (itoa_str n hn0 hn1 _ (HGl.out.ext HX.out)).mono ?_; rintro e w2 ⟨z, rfl, hz2, hE⟩; have HX2 := Lib.hid (Ext.trans HX.out hE); have HZ := Lib.hid (HR.out z hz2); clear hE hz2))
      all_goals (go_ret; refine ⟨ret_int ?_, HX2.out⟩; rw [HF.out])
      all_goals first
        | rw [HZ.out.2 (by assumption)]
        | (rw [HZ.out.1 (by assumption), if_pos (by omega)]; done)
        | (rw [HZ.out.1 (by assumption), if_neg (by omega)]; done)

set_option maxHeartbeats 800000 in
theorem dead_Again (t p : ByteArray) (lv : Int) (rt : Bool) (pr ex : Int) (fr : ByteArray) (sq : Int) (A : Option Addr) (c : Nat) (l : List Pr) (w : World)
    (hl : l.length ≤ maxLen) (hf : PrFit l) (hr : Rd encP 2 w A l) :
    Calls Tryd.prog 16 #[.agg #[.string t, .string p, .int .i64 lv, .bool rt, .int .i64 pr, .int .i64 ex, .string fr, .int .i64 sq, .slice A l.length c]] w fun e w' => e = .returned (.bool (decide (deathsE l < 8))) ∧ Ext w w' := by
  have HRd := Lib.hid hr; clear hr
  have HF := Lib.hid hf; clear hf
  go_enter Tryd.func16, Tryd.ntmps16
  go_wp2_with (first | (go_at_call 14; refine (dead_Deaths t p lv rt pr ex fr sq A c l _ hl HF.out (HRd.out.ext ((Ext.refl w).alloc _))).mono ?_; rintro e w1 ⟨rfl, hE⟩; have HX := Lib.hid (Ext.trans ((Ext.refl w).alloc _) hE); clear hE))
  go_ret
  exact ⟨rfl, HX.out⟩
set_option maxHeartbeats 800000 in
theorem ref_Again (t p : ByteArray) (lv : Int) (rt : Bool) (pr ex : Int) (fr : ByteArray) (sq : Int) (A : Option Addr) (c : Nat) (l : List Pr) (w : World)
    (hl : l.length ≤ maxLen) (hf : PrFit l) (hr : Rd encP 2 w A l) (hg : Glob w) :
    Calls Tryd.prog 17 #[.agg #[.string t, .string p, .int .i64 lv, .bool rt, .int .i64 pr, .int .i64 ex, .string fr, .int .i64 sq, .slice A l.length c]] w fun e w' => e = .returned (.bool (decide (deathsE l < 8))) ∧ Ext w w' := by
  have HRd := Lib.hid hr; clear hr
  have HF := Lib.hid hf; clear hf
  have HG := Lib.hid hg; clear hg
  go_enter Tryd.func17, Tryd.ntmps17
  go_wp2_with (first | (go_at_call 15; refine (ref_Deaths t p lv rt pr ex fr sq A c l _ hl HF.out (HRd.out.ext ((Ext.refl w).alloc _)) (HG.out.ext ((Ext.refl w).alloc _))).mono ?_; rintro e w1 ⟨rfl, hE⟩; have HX := Lib.hid (Ext.trans ((Ext.refl w).alloc _) hE); clear hE))
  go_ret
  exact ⟨rfl, HX.out⟩

/-! ### P28.1 -/
set_option maxHeartbeats 400000 in
theorem ref_in (n lo hi : Int) (w : World) :
    Calls Tryd.prog 26 #[.int .i64 n, .int .i64 lo, .int .i64 hi] w fun e w' => e = .returned (.bool (decide (lo ≤ n) && decide (n ≤ hi))) ∧ w = w' := by
  go_enter Tryd.func26, Tryd.ntmps26
  go_wp2
  all_goals (go_ret; refine ⟨ret_bool ?_, rfl⟩; simp [*]; try omega)
def reasonE (att eatt ttl arr ex now : Int) : Int :=
  if (!(att == 0) && decide (att ≤ eatt)) = true then 4 else if ((!(ttl == 0) && decide (wrap64 (arr + ttl) ≤ now)) || expiredB ex now) = true then 2 else 0
set_option maxRecDepth 100000 in
set_option maxHeartbeats 1600000 in
theorem dead_Reason (nm dd : ByteArray) (mx ttl att num arr eatt : Int) (t p : ByteArray) (lv : Int) (rt : Bool) (pr ex : Int) (fr : ByteArray) (sq : Int) (A : Option Addr) (n c : Nat) (now : Int) (w : World) :
    Calls Tryd.prog 10 #[.agg #[.string nm, .int .i64 mx, .int .i64 ttl, .int .i64 att, .string dd], .agg #[.int .i64 num, .int .i64 arr, .int .i64 eatt, .string t, .string p, .int .i64 lv, .bool rt, .int .i64 pr, .int .i64 ex, .string fr, .int .i64 sq, .slice A n c], .int .i64 now] w
      fun e w' => e = .returned (.int .i64 (reasonE att eatt ttl arr ex now)) ∧ Ext w w' := by
  go_enter Tryd.func10, Tryd.ntmps10
  go_wp2_with (first | (go_at_call 28; refine (message_Expired t p lv rt pr ex fr sq A n c now _).mono ?_; rintro e w1 ⟨rfl, hE⟩; have HX := Lib.hid (Ext.trans (((Ext.refl w).alloc _).alloc _) hE); clear hE))
  all_goals (go_ret; refine ⟨ret_int ?_, ?_⟩)
  all_goals first
    | exact HX.out
    | exact ((Ext.refl w).alloc _).alloc _
    | (clear HX; simp only [reasonE, Bool.or_eq_true, Bool.and_eq_true, Bool.not_eq_true', beq_eq_false_iff_ne, decide_eq_true_eq]; repeat' split
       all_goals first | rfl | (exfalso; simp_all; done) | (exfalso; simp_all; omega))
    | (simp only [reasonE, Bool.or_eq_true, Bool.and_eq_true, Bool.not_eq_true', beq_eq_false_iff_ne, decide_eq_true_eq]; repeat' split
       all_goals first | rfl | (exfalso; simp_all; done) | (exfalso; simp_all; omega))

/-! the reference's -/
def expE (ttl arr ex now : Int) : Bool := (!(ttl == 0) && decide (wrap64 (arr + ttl) ≤ now)) || expiredB ex now
set_option maxRecDepth 100000 in
set_option maxHeartbeats 1600000 in
theorem ref25_Expired (nm dd : ByteArray) (mx ttl att num arr eatt : Int) (t p : ByteArray) (lv : Int) (rt : Bool) (pr ex : Int) (fr : ByteArray) (sq : Int) (A : Option Addr) (n c : Nat) (now : Int) (w : World) :
    Calls Tryd.prog 29 #[.agg #[.string nm, .int .i64 mx, .int .i64 ttl, .int .i64 att, .string dd], .agg #[.int .i64 num, .int .i64 arr, .int .i64 eatt, .string t, .string p, .int .i64 lv, .bool rt, .int .i64 pr, .int .i64 ex, .string fr, .int .i64 sq, .slice A n c], .int .i64 now] w
      fun e w' => e = .returned (.bool (expE ttl arr ex now)) ∧ Ext w w' := by
  go_enter Tryd.func29, Tryd.ntmps29
  go_wp2_with (first | (go_at_call 45; refine (ref_Expired t p lv rt pr ex fr sq A n c now _).mono ?_; rintro e w1 ⟨rfl, hE⟩; have HX := Lib.hid (Ext.trans (((Ext.refl w).alloc _).alloc _) hE); clear hE))
  all_goals (go_ret; refine ⟨ret_bool ?_, ?_⟩)
  all_goals first
    | exact HX.out
    | exact ((Ext.refl w).alloc _).alloc _
    | (clear HX; unfold expE; simp [*]; done)
    | (unfold expE; simp [*]; done)
    | (unfold expE; rw [Bool.eq_iff_iff]; simp [*]; try omega)
set_option maxRecDepth 100000 in
set_option maxHeartbeats 1600000 in
theorem ref_Reason (nm dd : ByteArray) (mx ttl att num arr eatt : Int) (t p : ByteArray) (lv : Int) (rt : Bool) (pr ex : Int) (fr : ByteArray) (sq : Int) (A : Option Addr) (n c : Nat) (now : Int) (w : World) :
    Calls Tryd.prog 11 #[.agg #[.string nm, .int .i64 mx, .int .i64 ttl, .int .i64 att, .string dd], .agg #[.int .i64 num, .int .i64 arr, .int .i64 eatt, .string t, .string p, .int .i64 lv, .bool rt, .int .i64 pr, .int .i64 ex, .string fr, .int .i64 sq, .slice A n c], .int .i64 now] w
      fun e w' => e = .returned (.int .i64 (reasonE att eatt ttl arr ex now)) ∧ Ext w w' := by
  have HR : Hid (reasonE att eatt ttl arr ex now = if (!(att == 0) && decide (att ≤ eatt)) = true then 4 else if expE ttl arr ex now = true then 2 else 0) := Lib.hid rfl
  go_enter Tryd.func11, Tryd.ntmps11
  go_wp2_with (first | (go_at_call 29; refine (ref25_Expired _ _ _ _ _ _ _ _ _ _ _ _ _ _ _ _ _ _ _ _ _).mono ?_; rintro e w1 ⟨rfl, hE⟩; have HX := Lib.hid (Ext.trans (((Ext.refl w).alloc _).alloc _) hE); clear hE))
  all_goals (go_ret; refine ⟨ret_int ?_, ?_⟩)
  all_goals first
    | exact HX.out
    | exact ((Ext.refl w).alloc _).alloc _
    | (rw [HR.out]; clear HX HR; simp only [Bool.and_eq_true, Bool.not_eq_true', beq_eq_false_iff_ne, decide_eq_true_eq]; repeat' split
       all_goals first | rfl | (exfalso; simp_all; done) | (exfalso; simp_all; omega))
    | (rw [HR.out]; simp only [Bool.and_eq_true, Bool.not_eq_true', beq_eq_false_iff_ne, decide_eq_true_eq]; repeat' split
       all_goals first | rfl | (exfalso; simp_all; done) | (exfalso; simp_all; omega))
/-- The reference's Check of a description: some code, and nothing else. -/
theorem maxLen_i64 {s : ByteArray} (h : s.size ≤ maxLen) : s.size ≤ 9223372036854775807 := h
set_option maxRecDepth 100000 in
set_option maxHeartbeats 1600000 in
theorem ref25_Check (nm dd : ByteArray) (mx ttl att : Int) (w : World) (h1 : nm.size ≤ maxLen) (h2 : dd.size ≤ maxLen) :
    Calls Tryd.prog 8 #[.agg #[.string nm, .int .i64 mx, .int .i64 ttl, .int .i64 att, .string dd]] w fun e w' => (∃ k : Int, e = .returned (.int .i64 k)) ∧ Ext w w' := by
  go_enter Tryd.func8, Tryd.ntmps8
  go_wp2_with (first
    | (go_at_call 25; refine (ref_Name _ _ (by assumption)).mono ?_; rintro e w1 ⟨rfl, rfl⟩)
    | (go_at_call 26; refine (ref_in _ _ _ _).mono ?_; rintro e w1 ⟨rfl, rfl⟩))
  all_goals (go_ret; exact ⟨⟨_, rfl⟩, (Ext.refl w).alloc _⟩)
end Go.Proofs.YthilbmdpbmkakaaDoor
