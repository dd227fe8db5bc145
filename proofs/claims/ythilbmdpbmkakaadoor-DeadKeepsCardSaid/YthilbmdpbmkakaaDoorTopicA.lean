/- Contracts: names (topic.Name and the reference's Name) and keys. -/
import Derived.Test.YthilbmdpbmkakaaDoorProg
import Derived.Test.YthilbmdpbmkakaaDoorWords
set_option linter.unusedVariables false
set_option linter.unusedSimpArgs false
namespace Go.Proofs.YthilbmdpbmkakaaDoor
open Go Go.RowKit

theorem ret_bool {a b : Bool} (h : a = b) : Ending.returned (.bool a) = .returned (.bool b) := by rw [h]

set_option maxHeartbeats 400000 in
theorem ref_lower (c : UInt8) (w : World) :
    Calls Tryd.prog 42 #[.int .u8 c.toNat] w fun e w' => e = .returned (.bool (lowerB c)) ∧ w = w' := by
  have hlt := c.toNat_lt
  cases hb : lowerB c with
  | true =>
    have h := (lowerB_iff c).1 hb
    have H := Lib.hid hb; clear hb
    obtain ⟨h1, h2⟩ := h
    go_enter Tryd.func42, Tryd.ntmps42
    go_wp2
    go_ret
    simp [h1, h2]
  | false =>
    have h : ¬ _ := fun h => Bool.false_ne_true (hb.symm.trans ((lowerB_iff c).2 h))
    have H := Lib.hid hb; clear hb
    by_cases h1 : 97 ≤ (c.toNat : Int)
    · have h2 : ¬ (c.toNat : Int) ≤ 122 := fun h2 => h ⟨h1, h2⟩
      clear h
      go_enter Tryd.func42, Tryd.ntmps42
      go_wp2
      go_ret
      simp [h1, h2]
    · clear h
      go_enter Tryd.func42, Tryd.ntmps42
      go_wp2
      go_ret
      simp [h1]
set_option maxHeartbeats 400000 in
theorem ref_digit (c : UInt8) (w : World) :
    Calls Tryd.prog 43 #[.int .u8 c.toNat] w fun e w' => e = .returned (.bool (digitB c)) ∧ w = w' := by
  have e : digitB c = (decide (48 ≤ (c.toNat : Int)) && decide ((c.toNat : Int) ≤ 57)) := by
    rw [Bool.eq_iff_iff, digitB_iff]; simp
  rw [e]
  clear e
  go_enter Tryd.func43, Tryd.ntmps43
  go_wp2
  all_goals (go_ret; refine ⟨ret_bool ?_, rfl⟩; simp [*]; try omega)
theorem all_at (p : UInt8 → Bool) (s : ByteArray) (k : Nat) (hk : k < s.size) : (s.data.toList.drop k).all p = (p s[k] && (s.data.toList.drop (k+1)).all p) := by
  rw [drop_at s k hk]; rfl
theorem any_at (p : UInt8 → Bool) (s : ByteArray) (k : Nat) (hk : k < s.size) : (s.data.toList.drop k).any p = (p s[k] || (s.data.toList.drop (k+1)).any p) := by
  rw [drop_at s k hk]; rfl
theorem name_short (s : ByteArray) (h : s.size < 1) : nameB s.data.toList = false := by
  have : ¬ 1 ≤ s.data.toList.length := by simp only [size_data]; omega
  simp only [nameB, this, decide_false, Bool.false_and]
theorem name_long (s : ByteArray) (h : 16 < s.size) : nameB s.data.toList = false := by
  have : ¬ s.data.toList.length ≤ 16 := by simp only [size_data]; omega
  simp only [nameB, this, decide_false, Bool.and_false, Bool.false_and]
theorem name_mid (s : ByteArray) (h : 1 ≤ s.size) (h2 : s.size ≤ 16) : nameB s.data.toList = (lowerB s[0] && (s.data.toList.drop 0).all wordB) := by
  have a : 1 ≤ s.data.toList.length := by simpa using h
  have b : s.data.toList.length ≤ 16 := by simpa using h2
  have c : s.data.toList.head? = some s[0] := by
    rw [List.head?_eq_getElem?, List.getElem?_eq_getElem (by omega)]; rfl
  simp only [nameB, a, b, c, decide_true, Bool.true_and, Option.map_some, Option.getD_some, List.drop_zero]
theorem word_low {c : UInt8} (h : lowerB c = true) : wordB c = true := by simp [wordB, h]
theorem word_dig {c : UInt8} (h : digitB c = true) : wordB c = true := by simp [wordB, h]
theorem word_dash {c : UInt8} (h : ((c.toNat : Int) != 45) = false) : wordB c = true := by
  have : (c == 45) = true := (dash_iff c).2 (by simpa using h)
  simp [wordB, this]
theorem word_not {c : UInt8} (h1 : lowerB c = false) (h2 : digitB c = false) (h : ((c.toNat : Int) != 45) = true) : wordB c = false := by
  have : (c == 45) = false := by
    cases hh : (c == 45) with
    | false => rfl
    | true => have := (dash_iff c).1 hh; simp [this] at h
  simp [wordB, h1, h2, this]

set_option maxHeartbeats 800000 in
theorem ref_Name (s : ByteArray) (w : World) (hs : s.size ≤ maxLen) :
    Calls Tryd.prog 25 #[.string s] w fun e w' => e = .returned (.bool (nameB s.data.toList)) ∧ w = w' := by
  unfold maxLen at hs
  by_cases h1 : s.size < 1
  · have H := Lib.hid (name_short s h1)
    go_enter Tryd.func25, Tryd.ntmps25
    go_wp2
    go_ret
    exact ⟨ret_bool H.out.symm, rfl⟩
  by_cases h2 : 16 < s.size
  · have H := Lib.hid (name_long s h2)
    go_enter Tryd.func25, Tryd.ntmps25
    go_wp2
    go_ret
    exact ⟨ret_bool H.out.symm, rfl⟩
  have hz : 0 < s.size := by omega
  have H := Lib.hid (name_mid s (by omega) (by omega))
  cases h0 : lowerB s[0] with
  | false =>
    go_enter Tryd.func25, Tryd.ntmps25
    go_wp2_with (first | (go_at_call 42; refine (ref_lower _ _).mono ?_; rintro e w' ⟨rfl, rfl⟩))
    go_ret
    exact ⟨ret_bool (by rw [H.out, h0]; rfl), rfl⟩
  | true =>
    go_enter Tryd.func25, Tryd.ntmps25
    go_wp2_with (first | (go_at_call 42; refine (ref_lower _ _).mono ?_; rintro e w' ⟨rfl, rfl⟩))
    go_loop [3] (fun i => ∃ k : Nat, k ≤ s.size ∧ i = .int .i64 k ∧ (s.data.toList.drop 0).all wordB = (s.data.toList.drop k).all wordB) (fun i => s.size - (intOf i).toNat)
    case atStart => exact ⟨0, by omega, rfl, rfl⟩
    case round =>
      obtain ⟨k, hk, rfl, hinv⟩ := hrel
      have HI := Lib.hid hinv; clear hinv
      by_cases hlt : k < s.size
      · have HR := Lib.hid (all_at wordB s k hlt)
        go_wp2_with (first | (go_at_call 42; refine (ref_lower _ _).mono ?_; rintro e w' ⟨rfl, rfl⟩) | (go_at_call 43; refine (ref_digit _ _).mono ?_; rintro e w' ⟨rfl, rfl⟩))
        · go_round
          case rel => exact ⟨k + 1, by omega, by go_num, by rw [HI.out, HR.out, word_low ‹_›]; rfl⟩
          case measure => simp [intOf]; omega
        · go_round
          case rel => exact ⟨k + 1, by omega, by go_num, by rw [HI.out, HR.out, word_dig ‹_›]; rfl⟩
          case measure => simp [intOf]; omega
        · rename_i g1 g2 g3
          go_ret
          exact ⟨ret_bool (by rw [H.out, h0, HI.out, HR.out, word_not (by simpa using g1) (by simpa using g2) g3]; rfl), rfl⟩
        · go_round
          case rel => exact ⟨k + 1, by omega, by go_num, by rw [HI.out, HR.out, word_dash ‹_›]; rfl⟩
          case measure => simp [intOf]; omega
      · go_wp2
        go_ret
        exact ⟨ret_bool (by rw [H.out, h0, HI.out, show k = s.size by omega, drop_all]; rfl), rfl⟩
theorem word_high {c : UInt8} (h : 128 ≤ c.toNat) : wordB c = false := by
  cases hh : wordB c with
  | false => rfl
  | true => have := (wordB_iff c).1 hh; omega
theorem low_not {c : UInt8} (h : (c.toNat : Int) < 97 ∨ 122 < (c.toNat : Int)) : lowerB c = false := by
  cases hh : lowerB c with
  | false => rfl
  | true => have := (lowerB_iff c).1 hh; omega
theorem dig_not {c : UInt8} (h : (c.toNat : Int) < 48 ∨ 57 < (c.toNat : Int)) : digitB c = false := by
  cases hh : digitB c with
  | false => rfl
  | true => have := (digitB_iff c).1 hh; omega
/-- What the loop of topic.Name does at byte pos (the i-th), c its rune. -/
theorem nameLoop_end (s : ByteArray) (pos : Nat) (h1 : 1 ≤ s.size) (h2 : s.size ≤ 16) (hp : 0 < pos) (hlow : lowerB s[0] = true) (hinv : (s.data.toList.drop 0).all wordB = (s.data.toList.drop pos).all wordB) (he : ¬ pos < s.size) : nameB s.data.toList = true := by
  rw [name_mid s h1 h2, hlow, hinv, List.drop_of_length_le (by simp only [size_data]; omega)]; rfl

set_option maxRecDepth 100000 in
set_option maxHeartbeats 1600000 in
theorem topic_Name (s : ByteArray) (w : World) (hs : s.size ≤ maxLen) :
    Calls Tryd.prog 32 #[.string s] w fun e w' => e = .returned (.bool (nameB s.data.toList)) ∧ Ext w w' := by
  unfold maxLen at hs
  by_cases h1 : s.size < 1
  · have H := Lib.hid (name_short s h1)
    go_enter Tryd.func32, Tryd.ntmps32
    go_wp2
    go_ret
    exact ⟨ret_bool H.out.symm, Ext.refl _⟩
  by_cases h2 : 16 < s.size
  · have H := Lib.hid (name_long s h2)
    go_enter Tryd.func32, Tryd.ntmps32
    go_wp2
    go_ret
    exact ⟨ret_bool H.out.symm, Ext.refl _⟩
  have hz : 0 < s.size := by omega
  have HM := Lib.hid (name_mid s (by omega) (by omega))
  go_enter Tryd.func32, Tryd.ntmps32
  go_wp2
  go_loopw [3] (fun _ w' => ∃ pos : Nat, w' = w.iter s pos ∧ (0 < pos → lowerB s[0] = true) ∧ (s.data.toList.drop 0).all wordB = (s.data.toList.drop pos).all wordB) (fun _ w' => s.size - w'.iterPos w.heap.size)
  case atStart => exact ⟨0, rfl, fun h => absurd h (by omega), rfl⟩
  case round =>
    obtain ⟨pos, rfl, hlow, hinv⟩ := hrel
    have HL := Lib.hid hlow; clear hlow
    have HI := Lib.hid hinv; clear hinv
    by_cases hlt : pos < s.size
    · have HR := Lib.hid (all_at wordB s pos hlt)
      have hs0 : pos = 0 → (s[0] = s[pos]) := fun h => by subst h; rfl
      have HS := Lib.hid hs0; clear hs0
      by_cases hasc : (s[pos]).toNat < 128
      · have hn := fun ty => run_next_ascii (P := Tryd.prog) w s pos ty hlt hasc
        have hlt8 : ((s[pos]).toNat : Int) < 128 := by omega
        cases hL : lowerB s[pos] with
        | true =>
          obtain ⟨g1, g2⟩ := (lowerB_iff _).1 hL
          have HW := Lib.hid (word_low hL)
          have HL2 := Lib.hid hL; clear hL
          go_wp2
          go_roundw
          case rel => exact ⟨pos + 1, rfl, fun _ => by rcases Nat.eq_zero_or_pos pos with h | h; (rw [HS.out h]; exact HL2.out); exact HL.out h, by rw [HI.out, HR.out, HW.out]; rfl⟩
          case measure => simp; omega
        | false =>
          have g0 : (s[pos].toNat : Int) < 97 ∨ 122 < (s[pos].toNat : Int) := by
            have : ¬ _ := fun h => Bool.false_ne_true (hL.symm.trans ((lowerB_iff _).2 h))
            omega
          have HL2 := Lib.hid hL; clear hL
          by_cases h0 : pos = 0
          · have hb : ((pos : Int) == 0) = true := by simpa using h0
            have HF : Hid (nameB s.data.toList = false) := Lib.hid (by rw [HM.out, HS.out h0, HL2.out]; rfl)
            clear h0
            rcases g0 with g0 | g0
            · go_wp2
              go_ret
              exact ⟨ret_bool HF.out.symm, Ext.alloc (Ext.refl _) _⟩
            · have g00 : ¬ (s[pos].toNat : Int) ≤ 122 := by omega
              go_wp2
              go_ret
              exact ⟨ret_bool HF.out.symm, Ext.alloc (Ext.refl _) _⟩
          · have hb : ((pos : Int) == 0) = false := by simpa using h0
            have HP : Hid (0 < pos) := Lib.hid (by omega)
            clear h0
            cases hW : wordB s[pos] with
            | true =>
              have HW := Lib.hid hW
              have g3 := (wordB_iff _).1 hW
              clear hW
              by_cases g4 : (s[pos].toNat : Int) = 45
              · have g5 : ((s[pos].toNat : Int) != 45) = false := by simpa using g4
                have g6 : (s[pos].toNat : Int) < 97 := by omega
                clear g3 g4 g0
                go_wp2
                go_roundw
                case rel => exact ⟨pos + 1, rfl, fun _ => HL.out HP.out, by rw [HI.out, HR.out, HW.out]; rfl⟩
                case measure => simp; omega
              · have g5 : ((s[pos].toNat : Int) != 45) = true := by simpa using g4
                have g6 : (s[pos].toNat : Int) < 97 := by omega
                have g7 : ¬ (s[pos].toNat : Int) < 48 := by omega
                have g8 : ¬ 57 < (s[pos].toNat : Int) := by omega
                clear g3 g4 g0
                go_wp2
                go_roundw
                case rel => exact ⟨pos + 1, rfl, fun _ => HL.out HP.out, by rw [HI.out, HR.out, HW.out]; rfl⟩
                case measure => simp; omega
            | false =>
              have HF : Hid (nameB s.data.toList = false) := Lib.hid (by rw [HM.out, HI.out, HR.out, hW]; simp)
              have g3 : ¬ _ := fun h => Bool.false_ne_true (hW.symm.trans ((wordB_iff _).2 h))
              clear hW
              have g5 : ((s[pos].toNat : Int) != 45) = true := by rw [bne_iff_ne]; omega
              rcases g0 with g0 | g0
              · by_cases g7 : (s[pos].toNat : Int) < 48
                · clear g3
                  go_wp2
                  go_ret
                  exact ⟨ret_bool HF.out.symm, Ext.alloc (Ext.refl _) _⟩
                · have g8 : 57 < (s[pos].toNat : Int) := by omega
                  clear g3
                  go_wp2
                  go_ret
                  exact ⟨ret_bool HF.out.symm, Ext.alloc (Ext.refl _) _⟩
              · have g00 : ¬ (s[pos].toNat : Int) ≤ 122 := by omega
                have g7 : ¬ (s[pos].toNat : Int) < 48 := by omega
                have g8 : 57 < (s[pos].toNat : Int) := by omega
                clear g3
                go_wp2
                go_ret
                exact ⟨ret_bool HF.out.symm, Ext.alloc (Ext.refl _) _⟩
      · have hn := fun ty => run_next_any (P := Tryd.prog) w s pos ty hlt
        have HF : Hid (nameB s.data.toList = false) := Lib.hid (by rw [HM.out, HI.out, HR.out, word_high (by omega)]; simp)
        have hh := (decode_high s pos hlt (by omega)).1
        have hle := decode_le s pos
        generalize Utf8.decode s pos = q at hn hh hle
        obtain ⟨q1, q2⟩ := q
        simp only at hn hh hle
        have g00 : ¬ (q1 : Int) ≤ 122 := by omega
        have g7 : ¬ (q1 : Int) < 48 := by omega
        have g8 : 57 < (q1 : Int) := by omega
        have g9 : 97 ≤ (q1 : Int) := by omega
        have g5 : ((q1 : Int) != 45) = true := by rw [bne_iff_ne]; omega
        clear hasc hh
        by_cases h0 : pos = 0
        · have hb : ((pos : Int) == 0) = true := by simpa using h0
          clear h0
          go_wp2
          go_ret
          exact ⟨ret_bool HF.out.symm, Ext.alloc (Ext.refl _) _⟩
        · have hb : ((pos : Int) == 0) = false := by simpa using h0
          clear h0
          go_wp2
          go_ret
          exact ⟨ret_bool HF.out.symm, Ext.alloc (Ext.refl _) _⟩
    · have hn := fun ty => run_next_end (P := Tryd.prog) w s pos ty hlt
      have HF : Hid (nameB s.data.toList = true) := Lib.hid (nameLoop_end s pos (by omega) (by omega) (by omega) (HL.out (by omega)) HI.out hlt)
      go_wp2
      go_ret
      exact ⟨ret_bool HF.out.symm, Ext.alloc (Ext.refl _) _⟩
end Go.Proofs.YthilbmdpbmkakaaDoor
