/- Contracts of chapter 28: Deaths, Again, Reason (program and reference). -/
import Derived.Test.YthilbmdpbmkakaaDoorDeadA
set_option linter.unusedVariables false
set_option linter.unusedSimpArgs false
namespace Go.Proofs.YthilbmdpbmkakaaDoor
open Go Go.RowKit

theorem empty_toList (s : ByteArray) : s.toList = [] ↔ s.size = 0 := by
  rw [toList_data, ← List.length_eq_zero_iff, size_data]
theorem deaths_fin (s : ByteArray) (h1 : ¬ s.size < 1) (h2 : ¬ 13 < s.size) (ha : s.data.toList.all digitB = true) (hl : leadB s.data.toList = false) : deathsL s.data.toList = if 1099511627776 < numL s.data.toList then 0 else (numL s.data.toList : Int) := by
  rw [deaths_mid s (by omega) (by omega), if_neg (by rw [ha]; decide), if_neg (by rw [hl]; decide)]
theorem deaths_bad (s : ByteArray) (h1 : ¬ s.size < 1) (h2 : ¬ 13 < s.size) (ha : s.data.toList.all digitB = false) : deathsL s.data.toList = 0 := by
  rw [deaths_mid s (by omega) (by omega), if_pos ha]
theorem deaths_lead (s : ByteArray) (h1 : ¬ s.size < 1) (h2 : ¬ 13 < s.size) (hl : leadB s.data.toList = true) : deathsL s.data.toList = 0 := by
  rw [deaths_mid s (by omega) (by omega), if_pos hl]
  split <;> rfl
/-- The loop over the digits. -/
def NumInv (s : ByteArray) (n j : Nat) : Prop := j ≤ s.size ∧ (s.data.toList.take j).all digitB = true ∧ n = numL (s.data.toList.take j) ∧ n < 10 ^ j
theorem NumInv.start (s : ByteArray) : NumInv s 0 0 := ⟨by omega, by simp, by simp [numL], by omega⟩
theorem NumInv.step {s : ByteArray} {n j : Nat} (h : NumInv s n j) (hj : j < s.size) (hd : digitB s[j] = true) : NumInv s (10 * n + (s[j].toNat - 48)) (j + 1) := by
  obtain ⟨h1, h2, h3, h4⟩ := h
  have := digit_bd hd
  exact ⟨by omega, by rw [all_take _ s j hj, h2, hd]; rfl, by rw [num_take s j hj, ← h3], by rw [Nat.pow_succ]; omega⟩
theorem NumInv.bound {s : ByteArray} {n j : Nat} (h : NumInv s n j) (hs : s.size ≤ 13) : n < 10000000000000 :=
  Nat.lt_of_lt_of_le h.2.2.2 (Nat.le_trans (Nat.pow_le_pow_right (by omega) (Nat.le_trans h.1 hs)) (by decide))
theorem NumInv.done {s : ByteArray} {n j : Nat} (h : NumInv s n j) (hj : ¬ j < s.size) : s.data.toList.all digitB = true ∧ n = numL s.data.toList := by
  have e : s.data.toList.take j = s.data.toList := List.take_of_length_le (by simp only [size_data]; have := h.1; omega)
  have h2 := h.2.1
  have h3 := h.2.2.1
  rw [e] at h2 h3
  exact ⟨h2, h3⟩

set_option maxRecDepth 100000 in
set_option maxHeartbeats 3200000 in
theorem dead_Deaths (t p : ByteArray) (lv : Int) (rt : Bool) (pr ex : Int) (fr : ByteArray) (sq : Int) (A : Option Addr) (c : Nat) (l : List Pr) (w : World)
    (hl : l.length ≤ maxLen) (hf : PrFit l) (hr : Rd encP 2 w A l) :
    Calls Tryd.prog 14 #[.agg #[.string t, .string p, .int .i64 lv, .bool rt, .int .i64 pr, .int .i64 ex, .string fr, .int .i64 sq, .slice A l.length c]] w fun e w' => e = .returned (.int .i64 (deathsE l)) ∧ Ext w w' := by
  have HRd := Lib.hid hr; clear hr
  have HG := fun (W : World) (hW : Ext w W) => message_Get A c l kDeaths W hl (HRd.out.ext hW)
  have HGet := Lib.hid HG; clear HG
  have HF : Hid (deathsE l = deathsL (getV l kDeaths).data.toList) := Lib.hid rfl
  have HN := Lib.hid (fun h => getV_none (l := l) (k := kDeaths) h)
  have hsz : (getV l kDeaths).size ≤ maxLen := by
    have key : ∀ (l : List Pr), PrFit l → (getV l kDeaths).size ≤ maxLen := by
      intro l
      induction l with
      | nil => intro _; simp [getV, getP, maxLen]
      | cons q l ih =>
        intro hq
        simp only [getV, getP]
        split
        · exact (hq q (by simp)).2
        · exact ih (fun x hx => hq x (List.mem_cons_of_mem _ hx))
    exact key l hf
  generalize hv : getV l kDeaths = s at *
  generalize hb : getH l kDeaths = b at *
  clear hv hb hf
  unfold maxLen at hsz
  have he0 := (empty_toList s)
  cases b with
  | false =>
    have H0 : Hid (deathsL s.data.toList = 0) := Lib.hid (by rw [HN.out rfl]; rfl)
    clear he0
    go_enter Tryd.func14, Tryd.ntmps14
    go_wp2_with (first | (go_at_call 30; refine (HGet.out _ ((Ext.refl w).alloc _)).mono ?_; rintro e w1 ⟨rfl, hE⟩; have HX := Lib.hid (Ext.trans ((Ext.refl w).alloc _) hE); clear hE))
    go_ret
    exact ⟨ret_int (by rw [HF.out, H0.out]), HX.out⟩
  | true =>
    by_cases h1 : s.size < 1
    · have he : s.toList = [] := he0.2 (by omega)
      have H0 : Hid (deathsL s.data.toList = 0) := Lib.hid (deaths_short s h1)
      clear he0
      go_enter Tryd.func14, Tryd.ntmps14
      go_wp2_with (first | (go_at_call 30; refine (HGet.out _ ((Ext.refl w).alloc _)).mono ?_; rintro e w1 ⟨rfl, hE⟩; have HX := Lib.hid (Ext.trans ((Ext.refl w).alloc _) hE); clear hE))
      go_ret
      exact ⟨ret_int (by rw [HF.out, H0.out]), HX.out⟩
    have he : ¬ s.toList = [] := fun h => by have := he0.1 h; omega
    have he2 : s.toList.isEmpty = false := by simpa using he
    clear he0
    by_cases h13 : 13 < s.size
    · have H0 : Hid (deathsL s.data.toList = 0) := Lib.hid (deaths_long s h13)
      go_enter Tryd.func14, Tryd.ntmps14
      go_wp2_with (first | (go_at_call 30; refine (HGet.out _ ((Ext.refl w).alloc _)).mono ?_; rintro e w1 ⟨rfl, hE⟩; have HX := Lib.hid (Ext.trans ((Ext.refl w).alloc _) hE); clear hE))
      go_ret
      exact ⟨ret_int (by rw [HF.out, H0.out]), HX.out⟩
    have h13' : ¬ (13 : Int) < s.size := by omega
    have hz : 0 < s.size := by omega
    go_enter Tryd.func14, Tryd.ntmps14
    go_wp2_with (first | (go_at_call 30; refine (HGet.out _ ((Ext.refl w).alloc _)).mono ?_; rintro e w1 ⟨rfl, hE⟩; have HX := Lib.hid (Ext.trans ((Ext.refl w).alloc _) hE); clear hE))
    go_loop [5, 26] (fun m i => ∃ n j : Nat, m = .int .i64 n ∧ i = .int .i64 j ∧ NumInv s n j ∧ (0 < j → leadB s.data.toList = false)) (fun _ i => s.size - (intOf i).toNat)
    case atStart => exact ⟨0, 0, rfl, rfl, NumInv.start s, fun h => absurd h (by omega)⟩
    case round =>
      obtain ⟨n, j, rfl, rfl, hI, hL⟩ := hrel
      have hnb := hI.bound (by omega)
      have hjs := hI.1
      have HI := Lib.hid hI; clear hI
      have HL := Lib.hid hL; clear hL
      by_cases hlt : j < s.size
      · cases hd : digitB s[j] with
        | false =>
          have H0 : Hid (deathsL s.data.toList = 0) := Lib.hid (deaths_bad s h1 h13 (all_bad s j hlt hd))
          have g : (s[j].toNat : Int) < 48 ∨ 57 < (s[j].toNat : Int) := by
            have : ¬ _ := fun h => Bool.false_ne_true (hd.symm.trans ((digitB_iff _).2 h))
            omega
          clear hd
          by_cases g1 : (s[j].toNat : Int) < 48
          · clear g
            go_wp2
            go_ret
            exact ⟨ret_int (by rw [HF.out, H0.out]), HX.out⟩
          · have g2 : 57 < (s[j].toNat : Int) := by omega
            clear g
            go_wp2
            go_ret
            exact ⟨ret_int (by rw [HF.out, H0.out]), HX.out⟩
        | true =>
          have hbd := digit_bd hd
          have HN2 := Lib.hid (HI.out.step hlt hd)
          have g1 : ¬ (s[j].toNat : Int) < 48 := by omega
          have g2 : ¬ 57 < (s[j].toNat : Int) := by omega
          have g3 : (48 : Int) ≤ s[j].toNat := by omega
          have g4 : (s[j].toNat : Int) ≤ 57 := by omega
          clear hd hbd
          have hfin : Hid (Value.int IntKind.i64 (10 * (n : Int) + ((s[j].toNat : Int) - 48)) = .int .i64 ((10 * n + (s[j].toNat - 48) : Nat) : Int)) := Lib.hid (by congr 1; omega)
          by_cases h0 : j = 0
          · have hj0 : ((j : Int) == 0) = true := by simpa using h0
            have HLA := Lib.hid (lead_at s (by omega))
            have HSJ : Hid (s[0] = s[j]) := Lib.hid (by simp only [h0])
            cases hq : (s[j] == 48) with
            | true =>
              have hc : ((s[j].toNat : Int) == 48) = true := beq_iff_eq.2 ((byte_iff _ _).1 hq)
              by_cases hone : 1 < s.size
              · have H0 : Hid (deathsL s.data.toList = 0) := Lib.hid (deaths_lead s h1 h13 (by rw [HLA.out, HSJ.out, hq]; simpa using hone))
                have hone' : (1 : Int) < s.size := by omega
                clear hq h0
                go_wp2
                go_ret
                exact ⟨ret_int (by rw [HF.out, H0.out]), HX.out⟩
              · have HL2 : Hid (leadB s.data.toList = false) := Lib.hid (by rw [HLA.out]; simp [hone])
                have hone' : ¬ (1 : Int) < s.size := by omega
                clear hq h0
                go_wp2
                go_round
                case rel => exact ⟨_, j + 1, by first | exact hfin.out | go_num, by go_num, HN2.out, fun _ => HL2.out⟩
                case measure => simp [intOf]; omega
            | false =>
              have hc : ((s[j].toNat : Int) == 48) = false := beq_eq_false_iff_ne.2 (fun h => Bool.false_ne_true (hq.symm.trans ((byte_iff _ _).2 h)))
              have HL2 : Hid (leadB s.data.toList = false) := Lib.hid (by rw [HLA.out, HSJ.out, hq]; rfl)
              clear hq h0
              go_wp2
              go_round
              case rel => exact ⟨_, j + 1, by first | exact hfin.out | go_num, by go_num, HN2.out, fun _ => HL2.out⟩
              case measure => simp [intOf]; omega
          · have hj0 : ((j : Int) == 0) = false := by simpa using h0
            have HP : Hid (0 < j) := Lib.hid (by omega)
            clear h0
            go_wp2
            go_round
            case rel => exact ⟨_, j + 1, by first | exact hfin.out | go_num, by go_num, HN2.out, fun _ => HL.out HP.out⟩
            case measure => simp [intOf]; omega
      · obtain ⟨ha, hn⟩ := HI.out.done hlt
        have HD := Lib.hid (deaths_fin s h1 h13 ha (HL.out (by omega)))
        rw [← hn] at HD
        clear ha hn
        by_cases hbig : 1099511627776 < n
        · have hbig' : (1099511627776 : Int) < n := by omega
          go_wp2
          go_ret
          exact ⟨ret_int (by rw [HF.out, HD.out, if_pos hbig]), HX.out⟩
        · have hbig' : ¬ (1099511627776 : Int) < n := by omega
          go_wp2
          go_ret
          exact ⟨ret_int (by rw [HF.out, HD.out, if_neg hbig]), HX.out⟩
end Go.Proofs.YthilbmdpbmkakaaDoor
