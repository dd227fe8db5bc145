/- Contracts: keys and lists of properties: message.key, message.Props and the reference's Key, Props. -/
import Derived.Test.YthilbmdpbmkakaaDoorTopicC
set_option linter.unusedVariables false
set_option linter.unusedSimpArgs false
namespace Go.Proofs.YthilbmdpbmkakaaDoor
open Go Go.RowKit

theorem key_short (s : ByteArray) (h : s.size < 1) : keyB s.data.toList = false := by
  have : ¬ 1 ≤ s.data.toList.length := by simp only [size_data]; omega
  simp only [keyB, this, decide_false, Bool.false_and]
theorem key_long (s : ByteArray) (h : 16 < s.size) : keyB s.data.toList = false := by
  have : ¬ s.data.toList.length ≤ 16 := by simp only [size_data]; omega
  simp only [keyB, this, decide_false, Bool.and_false, Bool.false_and]
theorem key_mid (s : ByteArray) (h : 1 ≤ s.size) (h2 : s.size ≤ 16) : keyB s.data.toList = (s.data.toList.drop 0).all wordB := by
  have a : 1 ≤ s.data.toList.length := by simpa using h
  have b : s.data.toList.length ≤ 16 := by simpa using h2
  simp only [keyB, a, b, decide_true, Bool.true_and, List.drop_zero]

set_option maxHeartbeats 800000 in
theorem message_key (s : ByteArray) (w : World) (hs : s.size ≤ maxLen) :
    Calls Tryd.prog 56 #[.string s] w fun e w' => e = .returned (.bool (keyB s.data.toList)) ∧ w = w' := by
  unfold maxLen at hs
  by_cases h1 : s.size < 1
  · have H := Lib.hid (key_short s h1)
    go_enter Tryd.func56, Tryd.ntmps56
    go_wp2
    go_ret
    exact ⟨ret_bool H.out.symm, rfl⟩
  by_cases h2 : 16 < s.size
  · have H := Lib.hid (key_long s h2)
    go_enter Tryd.func56, Tryd.ntmps56
    go_wp2
    go_ret
    exact ⟨ret_bool H.out.symm, rfl⟩
  have H := Lib.hid (key_mid s (by omega) (by omega))
  go_enter Tryd.func56, Tryd.ntmps56
  go_wp2
  go_loop [3] (fun i => ∃ k : Nat, k ≤ s.size ∧ i = .int .i64 k ∧ (s.data.toList.drop 0).all wordB = (s.data.toList.drop k).all wordB) (fun i => s.size - (intOf i).toNat)
  case atStart => exact ⟨0, by omega, rfl, rfl⟩
  case round =>
    obtain ⟨k, hk, rfl, hinv⟩ := hrel
    have HI := Lib.hid hinv; clear hinv
    by_cases hlt : k < s.size
    · have HR := Lib.hid (all_at wordB s k hlt)
      cases hW : wordB s[k] with
      | true =>
        have g := (wordB_iff _).1 hW
        have HW := Lib.hid hW; clear hW
        go_wp2
        all_goals first
          | (exfalso; simp_all; omega; done)
          | (go_round
             case rel => exact ⟨k + 1, by omega, by go_num, by rw [HI.out, HR.out, HW.out]; rfl⟩
             case measure => simp [intOf]; omega)
      | false =>
        have g : ¬ _ := fun h => Bool.false_ne_true (hW.symm.trans ((wordB_iff _).2 h))
        have HW := Lib.hid hW; clear hW
        go_wp2
        all_goals first
          | (go_ret; exact ⟨ret_bool (by rw [H.out, HI.out, HR.out, HW.out]; rfl), rfl⟩)
          | (exfalso; simp_all; omega; done)
    · go_wp2
      go_ret
      exact ⟨ret_bool (by rw [H.out, HI.out, List.drop_of_length_le (by simp only [size_data]; omega)]; rfl), rfl⟩

set_option maxHeartbeats 800000 in
theorem ref_Key (s : ByteArray) (w : World) (hs : s.size ≤ maxLen) :
    Calls Tryd.prog 65 #[.string s] w fun e w' => e = .returned (.bool (keyB s.data.toList)) ∧ w = w' := by
  unfold maxLen at hs
  by_cases h1 : s.size < 1
  · have H := Lib.hid (key_short s h1)
    go_enter Tryd.func65, Tryd.ntmps65
    go_wp2
    go_ret
    exact ⟨ret_bool H.out.symm, rfl⟩
  by_cases h2 : 16 < s.size
  · have H := Lib.hid (key_long s h2)
    go_enter Tryd.func65, Tryd.ntmps65
    go_wp2
    go_ret
    exact ⟨ret_bool H.out.symm, rfl⟩
  have H := Lib.hid (key_mid s (by omega) (by omega))
  go_enter Tryd.func65, Tryd.ntmps65
  go_wp2
  go_loop [3] (fun i => ∃ k : Nat, k ≤ s.size ∧ i = .int .i64 k ∧ (s.data.toList.drop 0).all wordB = (s.data.toList.drop k).all wordB) (fun i => s.size - (intOf i).toNat)
  case atStart => exact ⟨0, by omega, rfl, rfl⟩
  case round =>
    obtain ⟨k, hk, rfl, hinv⟩ := hrel
    have HI := Lib.hid hinv; clear hinv
    by_cases hlt : k < s.size
    · have HR := Lib.hid (all_at wordB s k hlt)
      cases hW : wordB s[k] with
      | true =>
        have g := (wordB_iff _).1 hW
        have HW := Lib.hid hW; clear hW
        go_wp2
        all_goals first
          | (exfalso; simp_all; omega; done)
          | (go_round
             case rel => exact ⟨k + 1, by omega, by go_num, by rw [HI.out, HR.out, HW.out]; rfl⟩
             case measure => simp [intOf]; omega)
      | false =>
        have g : ¬ _ := fun h => Bool.false_ne_true (hW.symm.trans ((wordB_iff _).2 h))
        have HW := Lib.hid hW; clear hW
        go_wp2
        all_goals first
          | (go_ret; exact ⟨ret_bool (by rw [H.out, HI.out, HR.out, HW.out]; rfl), rfl⟩)
          | (exfalso; simp_all; omega; done)
    · go_wp2
      go_ret
      exact ⟨ret_bool (by rw [H.out, HI.out, List.drop_of_length_le (by simp only [size_data]; omega)]; rfl), rfl⟩

/-! ### lists of properties -/
def leS (a b : ByteArray) : Bool := Op.bytesLess a.toList b.toList || a.toList == b.toList
/-- P5.1: the first error of properties behind one with the key prev. -/
def propsGo : Option ByteArray → List Pr → Int
  | _, [] => 0
  | prev, p :: l => if keyB p.1.data.toList = false then 16 else if 160 < p.2.size then 5 else if (prev.map fun q => leS p.1 q).getD false then 16 else propsGo (some p.1) l
def propsE (l : List Pr) : Int := if 8 < l.length then 5 else propsGo none l
def prevOf (l : List Pr) (k : Nat) : Option ByteArray := if k = 0 then none else some (l.getD (k - 1) (ByteArray.empty, ByteArray.empty)).1
theorem prevOf_zero (l : List Pr) : prevOf l 0 = none := rfl
theorem prevOf_succ (l : List Pr) (j : Nat) (h : j < l.length) : prevOf l (j + 1) = some l[j].1 := by
  simp [prevOf, List.getD_eq_getElem?_getD, h]
theorem props_step (l : List Pr) (k : Nat) (hk : k < l.length) (p : Option ByteArray) : propsGo p (l.drop k) = if keyB l[k].1.data.toList = false then 16 else if 160 < l[k].2.size then 5 else if (p.map fun q => leS l[k].1 q).getD false then 16 else propsGo (some l[k].1) (l.drop (k + 1)) := by
  rw [List.drop_eq_getElem_cons hk]; rfl
theorem ret_int {k : IntKind} {a b : Int} (h : a = b) : Ending.returned (.int k a) = .returned (.int k b) := by rw [h]
/-- Each text of the list has a length. -/
def PrFit (l : List Pr) : Prop := ∀ p ∈ l, p.1.size ≤ maxLen ∧ p.2.size ≤ maxLen
theorem PrFit.at {l : List Pr} (h : PrFit l) (k : Nat) (hk : k < l.length) : l[k].1.size ≤ maxLen ∧ l[k].2.size ≤ maxLen := h _ (List.getElem_mem hk)

set_option maxRecDepth 100000 in
set_option maxHeartbeats 1600000 in
theorem message_Props (A : Option Addr) (c : Nat) (l : List Pr) (w : World) (hl : l.length ≤ maxLen) (hf : PrFit l) (hr : Rd encP 2 w A l) :
    Calls Tryd.prog 39 #[.slice A l.length c] w fun e w' => e = .returned (.int .i64 (propsE l)) ∧ Ext w w' := by
  unfold maxLen at hl
  have HFit := Lib.hid hf; clear hf
  have HRd := Lib.hid hr; clear hr
  by_cases h8 : 8 < l.length
  · have H : Hid (propsE l = 5) := Lib.hid (by simp [propsE, h8])
    go_enter Tryd.func39, Tryd.ntmps39
    go_wp2
    go_ret
    exact ⟨ret_int H.out.symm, Ext.refl _⟩
  have H : Hid (propsE l = propsGo none (l.drop 0)) := Lib.hid (by simp [propsE, h8])
  go_enter Tryd.func39, Tryd.ntmps39
  go_wp2
  go_loopw [10] (fun i wr => ∃ k : Nat, k ≤ l.length ∧ i = .int .i64 k ∧ Ext w wr ∧ propsGo none (l.drop 0) = propsGo (prevOf l k) (l.drop k)) (fun i _ => l.length - (intOf i).toNat)
  case atStart => exact ⟨0, by omega, rfl, Ext.refl _, rfl⟩
  case round =>
    obtain ⟨k, hk, rfl, hE, hinv⟩ := hrel
    have HE := Lib.hid hE; clear hE
    have HI := Lib.hid hinv; clear hinv
    by_cases hlt : k < l.length
    · have HS := Lib.hid (props_step l k hlt (prevOf l k))
      obtain ⟨b, off, rfl, hb, c1, c2⟩ := (Rd.ext HRd.out HE.out).pr hlt
      have hk1 := (HFit.out.at k hlt).1
      have hv1 := (HFit.out.at k hlt).2
      have hv2 : l[k].2.size ≤ 9223372036854775807 := hv1
      cases hK : keyB l[k].1.data.toList with
      | false =>
        go_wp2_with (first | (go_at_call 56; refine (message_key _ _ hk1).mono ?_; rintro e w' ⟨rfl, rfl⟩))
        go_ret
        exact ⟨ret_int (by rw [H.out, HI.out, HS.out, if_pos hK]), HE.out.alloc _⟩
      | true =>
        by_cases h160 : 160 < l[k].2.size
        · go_wp2_with (first | (go_at_call 56; refine (message_key _ _ hk1).mono ?_; rintro e w' ⟨rfl, rfl⟩))
          go_ret
          exact ⟨ret_int (by rw [H.out, HI.out, HS.out, if_neg (by rw [hK]; decide), if_pos h160]), HE.out.alloc _⟩
        · rcases Nat.eq_zero_or_pos k with h0 | h0
          · have HS2 : Hid (propsGo (prevOf l k) (l.drop k) = propsGo (some l[k].1) (l.drop (k + 1))) := Lib.hid (by
              have e : prevOf l k = none := by simp only [h0]; rfl
              rw [HS.out, if_neg (by rw [hK]; decide), if_neg h160, e]; rfl)
            have hd : decide (0 < k) = false := by simp; omega
            clear h0
            go_wp2_with (first | (go_at_call 56; refine (message_key _ _ hk1).mono ?_; rintro e w' ⟨rfl, rfl⟩))
            go_quiet (fail)
            go_wp2
            go_roundw
            case rel => exact ⟨k + 1, by omega, by go_num, (HE.out.alloc _).drewN _, by rw [HI.out, HS2.out, prevOf_succ l k hlt]⟩
            case measure => simp [intOf]; omega
          · obtain ⟨j, rfl⟩ : ∃ j, k = j + 1 := ⟨k - 1, by omega⟩
            have hj : j < l.length := by omega
            obtain ⟨b', off', e1, hb', c1', c2'⟩ := (Rd.ext HRd.out HE.out).pr hj
            cases e1
            cases hle : leS l[j+1].1 l[j].1 with
            | true =>
              have HX : Hid (propsGo (prevOf l (j + 1)) (l.drop (j + 1)) = 16) := Lib.hid (by rw [HS.out, if_neg (by rw [hK]; decide), if_neg h160, prevOf_succ l j hj]; simp [hle])
              unfold leS at hle
              go_wp2_with (first | (go_at_call 56; refine (message_key _ _ hk1).mono ?_; rintro e w' ⟨rfl, rfl⟩))
              go_quiet (fail)
              go_wp2
              go_ret
              exact ⟨ret_int (by rw [H.out, HI.out, HX.out]), (HE.out.alloc _).drewN _⟩
            | false =>
              have HX : Hid (propsGo (prevOf l (j + 1)) (l.drop (j + 1)) = propsGo (some l[j + 1].1) (l.drop (j + 1 + 1))) := Lib.hid (by rw [HS.out, if_neg (by rw [hK]; decide), if_neg h160, prevOf_succ l j hj]; simp [hle])
              unfold leS at hle
              go_wp2_with (first | (go_at_call 56; refine (message_key _ _ hk1).mono ?_; rintro e w' ⟨rfl, rfl⟩))
              go_quiet (fail)
              go_wp2
              go_roundw
              case rel => exact ⟨j + 1 + 1, by omega, by go_num, (HE.out.alloc _).drewN _, by rw [HI.out, HX.out, prevOf_succ l (j + 1) hlt]⟩
              case measure => simp [intOf]; omega
    · go_wp2
      go_ret
      exact ⟨ret_int (by rw [H.out, HI.out, List.drop_of_length_le (by omega)]; rfl), HE.out⟩
set_option maxRecDepth 100000 in
set_option maxHeartbeats 1600000 in
theorem ref_Props (A : Option Addr) (c : Nat) (l : List Pr) (w : World) (hl : l.length ≤ maxLen) (hf : PrFit l) (hr : Rd encP 2 w A l) :
    Calls Tryd.prog 49 #[.slice A l.length c] w fun e w' => e = .returned (.int .i64 (propsE l)) ∧ Ext w w' := by
  unfold maxLen at hl
  have HFit := Lib.hid hf; clear hf
  have HRd := Lib.hid hr; clear hr
  by_cases h8 : 8 < l.length
  · have H : Hid (propsE l = 5) := Lib.hid (by simp [propsE, h8])
    go_enter Tryd.func49, Tryd.ntmps49
    go_wp2
    go_ret
    exact ⟨ret_int H.out.symm, Ext.refl _⟩
  have H : Hid (propsE l = propsGo none (l.drop 0)) := Lib.hid (by simp [propsE, h8])
  go_enter Tryd.func49, Tryd.ntmps49
  go_wp2
  go_loopw [3] (fun i wr => ∃ k : Nat, k ≤ l.length ∧ i = .int .i64 k ∧ Ext w wr ∧ propsGo none (l.drop 0) = propsGo (prevOf l k) (l.drop k)) (fun i _ => l.length - (intOf i).toNat)
  case atStart => exact ⟨0, by omega, rfl, Ext.refl _, rfl⟩
  case round =>
    obtain ⟨k, hk, rfl, hE, hinv⟩ := hrel
    have HE := Lib.hid hE; clear hE
    have HI := Lib.hid hinv; clear hinv
    by_cases hlt : k < l.length
    · have HS := Lib.hid (props_step l k hlt (prevOf l k))
      obtain ⟨b, off, rfl, hb, c1, c2⟩ := (Rd.ext HRd.out HE.out).pr hlt
      have hk1 := (HFit.out.at k hlt).1
      have hv1 := (HFit.out.at k hlt).2
      have hv2 : l[k].2.size ≤ 9223372036854775807 := hv1
      cases hK : keyB l[k].1.data.toList with
      | false =>
        go_wp2_with (first | (go_at_call 65; refine (ref_Key _ _ hk1).mono ?_; rintro e w' ⟨rfl, rfl⟩))
        go_ret
        exact ⟨ret_int (by rw [H.out, HI.out, HS.out, if_pos hK]), HE.out⟩
      | true =>
        by_cases h160 : 160 < l[k].2.size
        · go_wp2_with (first | (go_at_call 65; refine (ref_Key _ _ hk1).mono ?_; rintro e w' ⟨rfl, rfl⟩))
          go_ret
          exact ⟨ret_int (by rw [H.out, HI.out, HS.out, if_neg (by rw [hK]; decide), if_pos h160]), HE.out⟩
        · rcases Nat.eq_zero_or_pos k with h0 | h0
          · have HS2 : Hid (propsGo (prevOf l k) (l.drop k) = propsGo (some l[k].1) (l.drop (k + 1))) := Lib.hid (by
              have e : prevOf l k = none := by simp only [h0]; rfl
              rw [HS.out, if_neg (by rw [hK]; decide), if_neg h160, e]; rfl)
            have hd : decide (0 < k) = false := by simp; omega
            clear h0
            go_wp2_with (first | (go_at_call 65; refine (ref_Key _ _ hk1).mono ?_; rintro e w' ⟨rfl, rfl⟩))
            go_quiet (fail)
            go_wp2
            go_roundw
            case rel => exact ⟨k + 1, by omega, by go_num, HE.out.drewN _, by rw [HI.out, HS2.out, prevOf_succ l k hlt]⟩
            case measure => simp [intOf]; omega
          · obtain ⟨j, rfl⟩ : ∃ j, k = j + 1 := ⟨k - 1, by omega⟩
            have hj : j < l.length := by omega
            obtain ⟨b', off', e1, hb', c1', c2'⟩ := (Rd.ext HRd.out HE.out).pr hj
            cases e1
            cases hle : leS l[j+1].1 l[j].1 with
            | true =>
              have HX : Hid (propsGo (prevOf l (j + 1)) (l.drop (j + 1)) = 16) := Lib.hid (by rw [HS.out, if_neg (by rw [hK]; decide), if_neg h160, prevOf_succ l j hj]; simp [hle])
              unfold leS at hle
              go_wp2_with (first | (go_at_call 65; refine (ref_Key _ _ hk1).mono ?_; rintro e w' ⟨rfl, rfl⟩))
              go_quiet (fail)
              go_wp2
              go_ret
              exact ⟨ret_int (by rw [H.out, HI.out, HX.out]), HE.out.drewN _⟩
            | false =>
              have HX : Hid (propsGo (prevOf l (j + 1)) (l.drop (j + 1)) = propsGo (some l[j + 1].1) (l.drop (j + 1 + 1))) := Lib.hid (by rw [HS.out, if_neg (by rw [hK]; decide), if_neg h160, prevOf_succ l j hj]; simp [hle])
              unfold leS at hle
              go_wp2_with (first | (go_at_call 65; refine (ref_Key _ _ hk1).mono ?_; rintro e w' ⟨rfl, rfl⟩))
              go_quiet (fail)
              go_wp2
              go_roundw
              case rel => exact ⟨j + 1 + 1, by omega, by go_num, HE.out.drewN _, by rw [HI.out, HX.out, prevOf_succ l (j + 1) hlt]⟩
              case measure => simp [intOf]; omega
    · go_wp2
      go_ret
      exact ⟨ret_int (by rw [H.out, HI.out, List.drop_of_length_le (by omega)]; rfl), HE.out⟩
end Go.Proofs.YthilbmdpbmkakaaDoor
