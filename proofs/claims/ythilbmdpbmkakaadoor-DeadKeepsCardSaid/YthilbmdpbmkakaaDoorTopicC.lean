/- Contracts: the reference's sized and Valid; topic.sized and topic.Valid. -/
import Derived.Test.YthilbmdpbmkakaaDoorTopicB
set_option linter.unusedVariables false
set_option linter.unusedSimpArgs false
namespace Go.Proofs.YthilbmdpbmkakaaDoor
open Go Go.RowKit

theorem sized_short (s : ByteArray) (h : s.size < 1) : sizedB s.data.toList = false := by
  have : ¬ 1 ≤ s.data.toList.length := by simp only [size_data]; omega
  simp only [sizedB, this, decide_false, Bool.false_and]
theorem sized_long (s : ByteArray) (h : 64 < s.size) : sizedB s.data.toList = false := by
  have : ¬ s.data.toList.length ≤ 64 := by simp only [size_data]; omega
  simp only [sizedB, this, decide_false, Bool.and_false, Bool.false_and]
theorem sized_mid (s : ByteArray) (h : 1 ≤ s.size) (h2 : s.size ≤ 64) : sizedB s.data.toList = (!isB 0 s.data.toList && decide (s.data.toList.count 47 + 1 ≤ 8)) := by
  have a : 1 ≤ s.data.toList.length := by simpa using h
  have b : s.data.toList.length ≤ 64 := by simpa using h2
  simp only [sizedB, a, b, decide_true, Bool.true_and]

set_option maxHeartbeats 800000 in
theorem ref_sized (s : ByteArray) (w : World) (hs : s.size ≤ maxLen) :
    Calls Tryd.prog 63 #[.string s] w fun e w' => e = .returned (.bool (sizedB s.data.toList)) ∧ Ext w w' := by
  have hs0 := hs
  unfold maxLen at hs
  by_cases h1 : s.size < 1
  · have H := Lib.hid (sized_short s h1)
    have h1' : ¬ (1 : Int) ≤ s.size := by omega
    go_enter Tryd.func63, Tryd.ntmps63
    go_wp2
    go_ret
    exact ⟨ret_bool H.out.symm, Ext.refl _⟩
  by_cases h2 : 64 < s.size
  · have H := Lib.hid (sized_long s h2)
    have h2' : ¬ (s.size : Int) ≤ 64 := by omega
    go_enter Tryd.func63, Tryd.ntmps63
    go_wp2
    go_ret
    exact ⟨ret_bool H.out.symm, Ext.refl _⟩
  have H := Lib.hid (sized_mid s (by omega) (by omega))
  have g1 : (1 : Int) ≤ s.size := by omega
  have g2 : (s.size : Int) ≤ 64 := by omega
  cases h0 : isB 0 s.data.toList with
  | true =>
    go_enter Tryd.func63, Tryd.ntmps63
    go_wp2_with (first | (go_at_call 64; refine (ref_Has s 0 _ hs0).mono ?_; rintro e w' ⟨rfl, rfl⟩))
    go_ret
    exact ⟨ret_bool (by rw [H.out, h0]; rfl), Ext.refl _⟩
  | false =>
    go_enter Tryd.func63, Tryd.ntmps63
    go_wp2_with (first | (go_at_call 64; refine (ref_Has s 0 _ hs0).mono ?_; rintro e w' ⟨rfl, rfl⟩) | (go_at_call 83; refine (ref_Levels s _ (by omega)).mono ?_; rintro e w1 ⟨v, xs, rfl, HO, hx, hE⟩; have HE := Lib.hid hE; obtain ⟨A, c, rfl, _, _, _⟩ := Own.rd encS_len HO; have HX := Lib.hid hx; clear hx hE HO))
    go_ret
    refine ⟨ret_bool ?_, HE.out⟩
    have e : xs.length = s.data.toList.count 47 + 1 := by
      have := congrArg List.length HX.out
      rw [List.length_map, levelsL_length] at this
      exact this
    rw [H.out, h0, e]
    simp
    omega

set_option maxHeartbeats 800000 in
theorem ref_Valid (s : ByteArray) (w : World) (hs : s.size ≤ maxLen) :
    Calls Tryd.prog 48 #[.string s] w fun e w' => e = .returned (.bool (validB s.data.toList)) ∧ Ext w w' := by
  have hs0 := hs
  unfold maxLen at hs
  have H : Hid (validB s.data.toList = (sizedB s.data.toList && !isB 43 s.data.toList && !isB 35 s.data.toList)) := Lib.hid rfl
  cases h0 : sizedB s.data.toList with
  | false =>
    go_enter Tryd.func48, Tryd.ntmps48
    go_wp2_with (first | (go_at_call 63; refine (ref_sized s _ hs0).mono ?_; rintro e w1 ⟨rfl, hE⟩; have HE := Lib.hid hE; clear hE))
    go_ret
    exact ⟨ret_bool (by rw [H.out, h0]; rfl), HE.out⟩
  | true =>
    cases h1 : isB 43 s.data.toList with
    | true =>
      go_enter Tryd.func48, Tryd.ntmps48
      go_wp2_with (first | (go_at_call 63; refine (ref_sized s _ hs0).mono ?_; rintro e w1 ⟨rfl, hE⟩; have HE := Lib.hid hE; clear hE) | (go_at_call 64; refine (ref_Has s 43 _ hs0).mono ?_; rintro e w' ⟨rfl, rfl⟩))
      go_ret
      exact ⟨ret_bool (by rw [H.out, h0, h1]; rfl), HE.out⟩
    | false =>
      go_enter Tryd.func48, Tryd.ntmps48
      go_wp2_with (first | (go_at_call 63; refine (ref_sized s _ hs0).mono ?_; rintro e w1 ⟨rfl, hE⟩; have HE := Lib.hid hE; clear hE) | (go_at_call_of 64 (Value.int .u8 43); refine (ref_Has s 43 _ hs0).mono ?_; rintro e w' ⟨rfl, rfl⟩) | (go_at_call_of 64 (Value.int .u8 35); refine (ref_Has s 35 _ hs0).mono ?_; rintro e w' ⟨rfl, rfl⟩))
      go_ret
      exact ⟨ret_bool (by rw [H.out, h0, h1]; simp), HE.out⟩

/-! ### the runes of topic.sized and topic.Valid -/
theorem count_at (b : UInt8) (s : ByteArray) (k : Nat) (hk : k < s.size) : (s.data.toList.drop k).count b = (if s[k] == b then 1 else 0) + (s.data.toList.drop (k+1)).count b := by
  rw [drop_at s k hk, List.count_cons]; omega
theorem high_skip (s : ByteArray) (pos : Nat) (h : pos < s.size) (ha : 128 ≤ (s[pos]'h).toNat) (b : UInt8) (hb : b.toNat < 128) :
    (s.data.toList.drop pos).count b = (s.data.toList.drop (pos + (Utf8.decode s pos).2)).count b ∧ (s.data.toList.drop pos).any (· == b) = (s.data.toList.drop (pos + (Utf8.decode s pos).2)).any (· == b) ∧ pos + (Utf8.decode s pos).2 ≤ s.size := by
  obtain ⟨k, hk, hlt, hh⟩ := decode_skip s pos h ha
  obtain ⟨m, e, _, hm⟩ := high_part s pos k hlt hh
  rw [hk, e]
  have hnb : ∀ c ∈ m, ¬ c = b := fun c hc he => by have := hm c hc; rw [he] at this; omega
  refine ⟨?_, ?_, by omega⟩
  · rw [List.count_append, List.count_eq_zero_of_not_mem (fun hc => hnb b hc rfl)]; omega
  · rw [List.any_append, List.any_eq_false.2 (fun c hc => by simpa using hnb c hc)]; rfl

/-- What is left behind byte pos: as many slashes more, and a byte 0 just where there is one. -/
def SizInv (s : ByteArray) (lv pos : Nat) : Prop := pos ≤ s.size ∧ lv ≤ pos + 1 ∧ lv + (s.data.toList.drop pos).count 47 = s.data.toList.count 47 + 1 ∧ isB 0 s.data.toList = (s.data.toList.drop pos).any (· == 0)

set_option maxRecDepth 100000 in
set_option maxHeartbeats 1600000 in
theorem topic_sized (s : ByteArray) (w : World) (hs : s.size ≤ maxLen) :
    Calls Tryd.prog 55 #[.string s] w fun e w' => e = .returned (.bool (sizedB s.data.toList)) ∧ Ext w w' := by
  unfold maxLen at hs
  by_cases h1 : s.size < 1
  · have H := Lib.hid (sized_short s h1)
    go_enter Tryd.func55, Tryd.ntmps55
    go_wp2
    go_ret
    exact ⟨ret_bool H.out.symm, Ext.refl _⟩
  by_cases h2 : 64 < s.size
  · have H := Lib.hid (sized_long s h2)
    go_enter Tryd.func55, Tryd.ntmps55
    go_wp2
    go_ret
    exact ⟨ret_bool H.out.symm, Ext.refl _⟩
  have H := Lib.hid (sized_mid s (by omega) (by omega))
  have hs64 : s.size ≤ 64 := by omega
  go_enter Tryd.func55, Tryd.ntmps55
  go_wp2
  go_loopw [3] (fun n w' => ∃ lv pos : Nat, w' = w.iter s pos ∧ n = .int .i64 lv ∧ SizInv s lv pos) (fun _ w' => s.size - w'.iterPos w.heap.size)
  case atStart => exact ⟨1, 0, rfl, rfl, by omega, by omega, by rw [List.drop_zero]; omega, rfl⟩
  case round =>
    obtain ⟨lv, pos, rfl, rfl, hI⟩ := hrel
    have hlv := hI.2.1
    have hps := hI.1
    have HI := Lib.hid hI; clear hI
    by_cases hlt : pos < s.size
    · have HR0 := Lib.hid (any_at (· == 0) s pos hlt)
      have HRC := Lib.hid (count_at 47 s pos hlt)
      by_cases hasc : (s[pos]).toNat < 128
      · have hn := fun ty => run_next_ascii (P := Tryd.prog) w s pos ty hlt hasc
        have hlt8 : ((s[pos]).toNat : Int) < 128 := by omega
        cases hz : (s[pos] == 0) with
        | true =>
          have hc : ((s[pos].toNat : Int) == 0) = true := beq_iff_eq.2 ((byte_iff _ _).1 hz)
          have HZ := Lib.hid hz; clear hz
          go_wp2
          go_ret
          exact ⟨ret_bool (by rw [H.out, HI.out.2.2.2, HR0.out, HZ.out]; rfl), Ext.alloc (Ext.refl _) _⟩
        | false =>
          have hc : ((s[pos].toNat : Int) == 0) = false := beq_eq_false_iff_ne.2 (fun h => Bool.false_ne_true (hz.symm.trans ((byte_iff _ _).2 h)))
          have HZ := Lib.hid hz; clear hz
          cases hb : (s[pos] == 47) with
          | true =>
            have hc : ((s[pos].toNat : Int) == 47) = true := beq_iff_eq.2 ((byte_iff _ _).1 hb)
            have HB := Lib.hid hb; clear hb
            go_wp2
            go_roundw
            case rel =>
              refine ⟨lv + 1, pos + 1, rfl, by go_num, by omega, by omega, ?_, ?_⟩
              · have := HI.out.2.2.1; rw [HRC.out, HB.out, if_pos rfl] at this; omega
              · rw [HI.out.2.2.2, HR0.out, HZ.out]; rfl
            case measure => simp; omega
          | false =>
            have hc : ((s[pos].toNat : Int) == 47) = false := beq_eq_false_iff_ne.2 (fun h => Bool.false_ne_true (hb.symm.trans ((byte_iff _ _).2 h)))
            have HB := Lib.hid hb; clear hb
            go_wp2
            go_roundw
            case rel =>
              refine ⟨lv, pos + 1, rfl, by go_num, by omega, by omega, ?_, ?_⟩
              · have := HI.out.2.2.1; rw [HRC.out, HB.out, if_neg (by decide)] at this; omega
              · rw [HI.out.2.2.2, HR0.out, HZ.out]; rfl
            case measure => simp; omega
      · have hn := fun ty => run_next_any (P := Tryd.prog) w s pos ty hlt
        have HK := Lib.hid (high_skip s pos hlt (by omega))
        obtain ⟨hh, hw1⟩ := decode_high s pos hlt (by omega)
        have hle := decode_le s pos
        generalize Utf8.decode s pos = q at hn hh hle HK hw1
        obtain ⟨q1, q2⟩ := q
        simp only at hn hh hle hw1
        have g0 : ((q1 : Int) == 0) = false := by simp; omega
        have g1 : ((q1 : Int) == 47) = false := by simp; omega
        clear hasc hh
        go_wp2
        go_roundw
        case rel =>
          refine ⟨lv, pos + q2, rfl, by go_num, (HK.out 0 (by decide)).2.2, by omega, ?_, ?_⟩
          · have := HI.out.2.2.1; rw [(HK.out 47 (by decide)).1] at this; exact this
          · rw [HI.out.2.2.2, (HK.out 0 (by decide)).2.1]
        case measure => simp; omega
    · have hn := fun ty => run_next_end (P := Tryd.prog) w s pos ty hlt
      go_wp2
      go_ret
      refine ⟨ret_bool ?_, Ext.alloc (Ext.refl _) _⟩
      have e : s.data.toList.drop pos = [] := List.drop_of_length_le (by simp only [size_data]; omega)
      have h5 := HI.out.2.2.1
      have h6 := HI.out.2.2.2
      rw [e] at h5 h6
      rw [List.count_nil] at h5
      rw [H.out, h6, ← h5]
      simp
      omega

set_option maxRecDepth 100000 in
set_option maxHeartbeats 1600000 in
theorem topic_Valid (s : ByteArray) (w : World) (hs : s.size ≤ maxLen) :
    Calls Tryd.prog 37 #[.string s] w fun e w' => e = .returned (.bool (validB s.data.toList)) ∧ Ext w w' := by
  have hs0 := hs
  unfold maxLen at hs
  have H : Hid (validB s.data.toList = (sizedB s.data.toList && !isB 43 s.data.toList && !isB 35 s.data.toList)) := Lib.hid rfl
  cases h0 : sizedB s.data.toList with
  | false =>
    go_enter Tryd.func37, Tryd.ntmps37
    go_wp2_with (first | (go_at_call 55; refine (topic_sized s _ hs0).mono ?_; rintro e w1 ⟨rfl, hE⟩; have HE := Lib.hid hE; clear hE))
    go_ret
    exact ⟨ret_bool (by rw [H.out, h0]; rfl), HE.out⟩
  | true =>
    go_enter Tryd.func37, Tryd.ntmps37
    go_wp2_with (first | (go_at_call 55; refine (topic_sized s _ hs0).mono ?_; rintro e w1 ⟨rfl, hE⟩; have HE := Lib.hid hE; clear hE))
    go_loopw [4] (fun _ w' => ∃ pos : Nat, w' = w1.iter s pos ∧ pos ≤ s.size ∧ isB 43 s.data.toList = (s.data.toList.drop pos).any (· == 43) ∧ isB 35 s.data.toList = (s.data.toList.drop pos).any (· == 35)) (fun _ w' => s.size - w'.iterPos w1.heap.size)
    case atStart => exact ⟨0, rfl, by omega, rfl, rfl⟩
    case round =>
      obtain ⟨pos, rfl, hps, hi1, hi2⟩ := hrel
      have I1 := Lib.hid hi1
      have I2 := Lib.hid hi2
      clear hi1 hi2
      by_cases hlt : pos < s.size
      · have R1 := Lib.hid (any_at (· == 43) s pos hlt)
        have R2 := Lib.hid (any_at (· == 35) s pos hlt)
        by_cases hasc : (s[pos]).toNat < 128
        · have hn := fun ty => run_next_ascii (P := Tryd.prog) w1 s pos ty hlt hasc
          have hlt8 : ((s[pos]).toNat : Int) < 128 := by omega
          cases hz : (s[pos] == 43) with
          | true =>
            have hc : ((s[pos].toNat : Int) == 43) = true := beq_iff_eq.2 ((byte_iff _ _).1 hz)
            have HZ := Lib.hid hz; clear hz
            go_wp2
            go_ret
            exact ⟨ret_bool (by rw [H.out, I1.out, R1.out, HZ.out]; simp), Ext.alloc HE.out _⟩
          | false =>
            have hc : ((s[pos].toNat : Int) == 43) = false := beq_eq_false_iff_ne.2 (fun h => Bool.false_ne_true (hz.symm.trans ((byte_iff _ _).2 h)))
            have HZ := Lib.hid hz; clear hz
            cases hb : (s[pos] == 35) with
            | true =>
              have hc : ((s[pos].toNat : Int) == 35) = true := beq_iff_eq.2 ((byte_iff _ _).1 hb)
              have HB := Lib.hid hb; clear hb
              go_wp2
              go_ret
              exact ⟨ret_bool (by rw [H.out, I2.out, R2.out, HB.out]; simp), Ext.alloc HE.out _⟩
            | false =>
              have hc : ((s[pos].toNat : Int) == 35) = false := beq_eq_false_iff_ne.2 (fun h => Bool.false_ne_true (hb.symm.trans ((byte_iff _ _).2 h)))
              have HB := Lib.hid hb; clear hb
              go_wp2
              go_roundw
              case rel => exact ⟨pos + 1, rfl, by omega, by rw [I1.out, R1.out, HZ.out]; rfl, by rw [I2.out, R2.out, HB.out]; rfl⟩
              case measure => simp; omega
        · have hn := fun ty => run_next_any (P := Tryd.prog) w1 s pos ty hlt
          have HK := Lib.hid (high_skip s pos hlt (by omega))
          obtain ⟨hh, hw1⟩ := decode_high s pos hlt (by omega)
          have hle := decode_le s pos
          generalize Utf8.decode s pos = q at hn hh hle HK hw1
          obtain ⟨q1, q2⟩ := q
          simp only at hn hh hle hw1
          have g0 : ((q1 : Int) == 43) = false := by simp; omega
          have g1 : ((q1 : Int) == 35) = false := by simp; omega
          clear hasc hh
          go_wp2
          go_roundw
          case rel => exact ⟨pos + q2, rfl, (HK.out 0 (by decide)).2.2, by rw [I1.out, (HK.out 43 (by decide)).2.1], by rw [I2.out, (HK.out 35 (by decide)).2.1]⟩
          case measure => simp; omega
      · have hn := fun ty => run_next_end (P := Tryd.prog) w1 s pos ty hlt
        go_wp2
        go_ret
        have e : s.data.toList.drop pos = [] := List.drop_of_length_le (by simp only [size_data]; omega)
        have h5 := I1.out
        have h6 := I2.out
        rw [e] at h5 h6
        exact ⟨ret_bool (by rw [H.out, h0, h5, h6]; rfl), Ext.alloc HE.out _⟩
end Go.Proofs.YthilbmdpbmkakaaDoor
