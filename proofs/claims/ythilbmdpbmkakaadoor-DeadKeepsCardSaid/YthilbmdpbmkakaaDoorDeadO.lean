/- Chapter 28: contracts: slices.Equal at properties; bare. -/
import Derived.Test.YthilbmdpbmkakaaDoorDeadN
set_option linter.unusedVariables false
set_option linter.unusedSimpArgs false
namespace Go.Proofs.YthilbmdpbmkakaaDoor
open Go Go.RowKit

set_option maxRecDepth 100000 in
set_option maxHeartbeats 1600000 in
theorem slices_EqualP (A B : Option Addr) (c d : Nat) (l m : List Pr) (w : World) (hl : l.length ≤ maxLen) (hm : m.length ≤ maxLen) (hr : Rd encP 2 w A l) (hr2 : Rd encP 2 w B m) :
    Calls Tryd.prog 22 #[.slice A l.length c, .slice B m.length d] w fun e w' => e = .returned (.bool (sameL l m)) ∧ Ext w w' := by
  unfold maxLen at hl hm
  have HR1 := Lib.hid hr; clear hr
  have HR2 := Lib.hid hr2; clear hr2
  by_cases hlen : l.length = m.length
  · have HL := Lib.hid hlen
    have hb : ((l.length : Int) != (m.length : Int)) = false := by rw [bne_eq_false_iff_eq, hlen]
    clear hlen
    go_enter Tryd.func22, Tryd.ntmps22
    go_wp2
    go_loopw [13] (fun i wr => ∃ j : Nat, j ≤ l.length ∧ i = .int .i64 j ∧ Ext w wr ∧ sameL (l.drop 0) (m.drop 0) = sameL (l.drop j) (m.drop j)) (fun i _ => l.length - (intOf i).toNat)
    case atStart => exact ⟨0, by omega, rfl, Ext.refl _, rfl⟩
    case round =>
      obtain ⟨j, hj, rfl, hE, hinv⟩ := hrel
      have HE := Lib.hid hE; clear hE
      have HI := Lib.hid hinv; clear hinv
      by_cases hlt : j < l.length
      · have hlm : j < m.length := by rw [← HL.out]; exact hlt
        have HS := Lib.hid (sameL_step l m j hlt hlm)
        obtain ⟨b, off, rfl, hb1, c1, c2⟩ := (Rd.ext HR1.out HE.out).pr hlt
        obtain ⟨b', off', rfl, hb2, c3, c4⟩ := (Rd.ext HR2.out HE.out).pr hlm
        have heq := eqIn_Prop
        cases hk : samePr l[j] m[j] with
        | true =>
          have hk2 : (l[j].1.toList == m[j].1.toList && l[j].2.toList == m[j].2.toList) = true := hk
          have HK := Lib.hid hk; clear hk
          go_wp2
          go_quiet (fail)
          go_wp2
          go_roundw
          case rel => exact ⟨j + 1, by omega, by go_num, HE.out.drewN _, by rw [HI.out, HS.out, HK.out]; rfl⟩
          case measure => simp [intOf]; omega
        | false =>
          have hk2 : (l[j].1.toList == m[j].1.toList && l[j].2.toList == m[j].2.toList) = false := hk
          have HK := Lib.hid hk; clear hk
          go_wp2
          go_quiet (fail)
          go_wp2
          go_ret
          exact ⟨ret_bool (by have := HI.out; rw [List.drop_zero, List.drop_zero] at this; rw [this, HS.out, HK.out]; rfl), HE.out.drewN _⟩
      · go_wp2
        go_ret
        exact ⟨ret_bool (by have := HI.out; rw [List.drop_zero, List.drop_zero] at this; rw [this, List.drop_of_length_le (by omega), List.drop_of_length_le (by rw [← HL.out]; omega)]; rfl), HE.out⟩
  · have HF := Lib.hid (sameL_ne hlen)
    have hb : ((l.length : Int) != (m.length : Int)) = true := by rw [bne_iff_ne]; omega
    clear hlen
    go_enter Tryd.func22, Tryd.ntmps22
    go_wp2
    go_ret
    exact ⟨ret_bool HF.out.symm, Ext.refl _⟩

theorem bare_in {l : List Pr} {j : Nat} (hj : j < l.length) (h : notMark l[j] = true) : bareL (l.take (j + 1)) = bareL (l.take j) ++ [l[j]] := by
  unfold bareL
  rw [List.take_succ_eq_append_getElem hj, List.filter_append]
  simp [h]
theorem bare_out {l : List Pr} {j : Nat} (hj : j < l.length) (h : notMark l[j] = false) : bareL (l.take (j + 1)) = bareL (l.take j) := by
  unfold bareL
  rw [List.take_succ_eq_append_getElem hj, List.filter_append]
  simp [h]
theorem bare_le (l : List Pr) : (bareL l).length ≤ l.length := List.length_filter_le _ _
set_option maxRecDepth 100000 in
set_option maxHeartbeats 3200000 in
theorem law_bare (A : Option Addr) (c : Nat) (l : List Pr) (w : World) (hl : l.length ≤ 4096) (hr : Rd encP 2 w A l) :
    Calls Tryd.prog 21 #[.slice A l.length c] w fun e w' => ∃ (A' : Option Addr) (c' : Nat), e = .returned (.slice A' (bareL l).length c') ∧ (bareL l).length ≤ c' ∧ Rd encP 2 w' A' (bareL l) ∧ Ext w w' := by
  have HRd := Lib.hid hr; clear hr
  obtain ⟨base, hbase⟩ : ∃ base, base = w.heap.size := ⟨_, rfl⟩
  have HBE := Lib.hid hbase
  clear hbase
  go_enter Tryd.func21, Tryd.ntmps21
  go_wp2
  go_loopw [3, 8] (fun v i wr => ∃ (j : Nat) (v0 : Value), v0 = v ∧ j ≤ l.length ∧ i = .int .i64 j ∧ Own encP 2 35 base wr v (bareL (l.take j)) ∧ Ext w wr) (fun _ i _ => l.length - (intOf i).toNat)
  case atStart => exact ⟨0, _, rfl, by omega, rfl, Own.nil _ _ _ _ _, Ext.refl _⟩
  case round =>
    obtain ⟨j, v, rfl, hj, rfl, hO, hE⟩ := hrel
    have HO := Lib.hid hO
    have HE := Lib.hid hE
    have hsz : base ≤ wr.heap.size := by have h1 := HBE.out; have h2 := hE.size; omega
    have HTO : Hid (∀ W, Below base w W → Ext w W) := Lib.hid (fun W h => by unfold Ext; rw [← HBE.out]; exact h)
    have HFR : Hid (∀ W, Ext w W → Below base w W) := Lib.hid (fun W h => by unfold Ext at h; rw [← HBE.out] at h; exact h)
    clear hO hE
    by_cases hlt : j < l.length
    · obtain ⟨b1, off1, rfl, hb1, c1, c2⟩ := (HRd.out.ext HE.out).pr hlt
      have hkl := bare_le (l.take j)
      have hkl2 : (l.take j).length ≤ j := List.length_take_le _ _
      obtain ⟨A', cc, rfl, hcc1, hcc2, _⟩ := HO.out.rd encP_len
      have HIN := Lib.hid (fun h => bare_in hlt h)
      have HOUT := Lib.hid (fun h => bare_out hlt h)
      have hbytes : ((bareL (l.take j)).length + 1) * 32 ≤ 140737488355328 := by omega
      generalize hn : (bareL (l.take j)).length = n at *
      have HN := Lib.hid hn; clear hn
      unfold maxLen at hcc2
      have e1 : kDeaths.toList = [100, 101, 97, 116, 104, 115] := by rw [toList_data]
      have e2 : kDied.toList = [100, 105, 101, 100] := by rw [toList_data]
      have HD : Hid (notMark l[j] = (!(l[j].1.toList == [100, 101, 97, 116, 104, 115]) && !(l[j].1.toList == [100, 105, 101, 100]))) := Lib.hid (by rw [notMark, e1, e2])
      clear e1 e2
      by_cases hk1 : l[j].1.toList = [100, 101, 97, 116, 104, 115]
      · have hb1 : (l[j].1.toList == [100, 101, 97, 116, 104, 115]) = true := by simpa using hk1
        have HM : Hid (bareL (l.take (j + 1)) = bareL (l.take j)) := Lib.hid (HOUT.out (by rw [HD.out, hb1]; rfl))
        go_wp2
        go_roundw
        case rel => exact ⟨j + 1, _, rfl, by omega, by go_num, by rw [HM.out]; exact HO.out.ext ((Ext.refl _).alloc _), HE.out.alloc _⟩
        case measure => simp [intOf]; omega
      · by_cases hk2 : l[j].1.toList = [100, 105, 101, 100]
        · have hb1 : (l[j].1.toList == [100, 101, 97, 116, 104, 115]) = false := by simpa using hk1
          have hb2 : (l[j].1.toList == [100, 105, 101, 100]) = true := by simpa using hk2
          have HM : Hid (bareL (l.take (j + 1)) = bareL (l.take j)) := Lib.hid (HOUT.out (by rw [HD.out, hb1, hb2]; rfl))
          go_wp2
          go_roundw
          case rel => exact ⟨j + 1, _, rfl, by omega, by go_num, by rw [HM.out]; exact HO.out.ext ((Ext.refl _).alloc _), HE.out.alloc _⟩
          case measure => simp [intOf]; omega
        · have hb1 : (l[j].1.toList == [100, 101, 97, 116, 104, 115]) = false := by simpa using hk1
          have hb2 : (l[j].1.toList == [100, 105, 101, 100]) = false := by simpa using hk2
          have HM : Hid (bareL (l.take (j + 1)) = bareL (l.take j) ++ [l[j]]) := Lib.hid (HIN.out (by rw [HD.out, hb1, hb2]; rfl))
          clear hk1 hk2
          go_upto_region 6 with fail
          go_wp2_with (first
            | (at_builtin; refine wp_append1 encP (w0 := w) base (by rfl) _ _ 24 35 (.agg #[.string ByteArray.empty, .string ByteArray.empty]) 2 32 (by rfl) Tryd.underlying24 Tryd.infoPr rfl (by decide) (by decide) encP_len encP_one _ (bareL (l.take j)) l[j] (by rfl) (by simp [Act.eval]) (HO.out.ext ((Ext.refl _).alloc _)) (HFR.out _ (HE.out.alloc _)) (by simp; omega) (by rw [HN.out]; exact hbytes) ?_; intro v1 w2 HO1 HB1 hg1 _))
          go_roundw
          case rel => exact ⟨j + 1, _, rfl, by omega, by go_num, by rw [HM.out]; exact HO1, HTO.out _ HB1⟩
          case measure => simp [intOf]; omega
    · have HT : Hid (bareL (l.take j) = bareL l) := Lib.hid (by rw [List.take_of_length_le (by omega)])
      obtain ⟨A', cc, rfl, hcc1, hcc2, hrd⟩ := HO.out.rd encP_len
      have HRD := Lib.hid hrd
      clear hrd
      go_wp2
      go_ret
      exact ⟨A', cc, by rw [HT.out]; rfl, by rw [← HT.out]; exact hcc1, by rw [← HT.out]; exact HRD.out, HE.out⟩
end Go.Proofs.YthilbmdpbmkakaaDoor
