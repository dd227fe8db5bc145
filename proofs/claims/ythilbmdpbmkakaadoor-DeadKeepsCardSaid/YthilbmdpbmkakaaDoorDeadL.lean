/- Contracts of chapter 28: the reference's put and Mark. -/
import Derived.Test.YthilbmdpbmkakaaDoorDeadK
import Derived.Test.YthilbmdpbmkakaaDoorInsertP
import Derived.Test.YthilbmdpbmkakaaDoorDeadH
set_option linter.unusedVariables false
set_option linter.unusedSimpArgs false
namespace Go.Proofs.YthilbmdpbmkakaaDoor
open Go Go.RowKit

set_option maxRecDepth 100000 in
set_option maxHeartbeats 3200000 in
theorem ref_put (base : Nat) (v : Value) (l : List Pr) (k x : ByteArray) (w : World) (HO : Own encP 2 35 base w v l) (hbase : base ≤ w.heap.size) (hbig : (l.length + 1) * 32 ≤ 140737488355328) :
    Calls Tryd.prog 41 #[v, .agg #[.string k, .string x]] w fun e w' => ∃ v', e = .returned v' ∧ Own encP 2 35 base w' v' (putL l (k, x)) ∧ w.grownBy w' v.ownBlock ∧ (v'.ownBlock = v.ownBlock ∨ ∃ b, v'.ownBlock = some b ∧ w.heap.size ≤ b) := by
  have hlt0 := HO.lt
  obtain ⟨A, c, rfl, hc1, hc2, hrd⟩ := HO.rd encP_len
  have hlm : l.length ≤ maxLen := Nat.le_trans hc1 hc2
  unfold maxLen at hlm hc2
  have HRd := Lib.hid hrd; clear hrd
  have HLT := Lib.hid hlt0; clear hlt0
  have HOo := Lib.hid HO; clear HO
  have HW : Hid (∀ W, Ext (w.alloc (.cells #[.string k, .string x] 35)) W → Ext w W) := Lib.hid (fun W h => ((Ext.refl w).alloc _).trans h)
  go_enter Tryd.func41, Tryd.ntmps41
  go_wp2
  go_loopw [5] (fun i wr => ∃ j : Nat, j ≤ l.length ∧ i = .int .i64 j ∧ Ext (w.alloc (.cells #[.string k, .string x] 35)) wr ∧ ∀ t (h : t < l.length), t < j → bl l[t].1.data.toList k.data.toList = true) (fun i _ => l.length - (intOf i).toNat)
  case atStart => exact ⟨0, by omega, rfl, Ext.refl _, fun t h h0 => absurd h0 (by omega)⟩
  case round =>
    obtain ⟨j, hj, rfl, hE, hinv⟩ := hrel
    have HE := Lib.hid hE
    have HI := Lib.hid hinv
    have hcl := hE.cells
    have hz : w.heap.size < wr.heap.size := by have := hE.size; simp at this; omega
    have hk0 : wr.cell? ⟨w.heap.size, 0, none⟩ = some (.string k) := by go_simp
    have hk1 : wr.cell? ⟨w.heap.size, 1, none⟩ = some (.string x) := by go_simp
    have HT : Hid (putAt l (k, x) = j → putL l (k, x) = l.take j ++ (k, x) :: l.drop j) := Lib.hid (fun h => by rw [putL_at, h])
    have fin : ∀ W : World, Ext w W → ∀ b0, W.heap.size = b0 → putAt l (k, x) = j → ∀ W2 : World, W2.heap = (W.alloc (.cells #[.string k, .string x] 35)).heap → Ext w W2 →
        Calls Tryd.prog 57 #[.slice A l.length c, .int .i64 j, .slice (some ⟨b0, 0, none⟩) 1 1] W2 fun e w' => ∃ v', e = .returned v' ∧ Own encP 2 35 base w' v' (putL l (k, x)) ∧ w.grownBy w' (Value.slice A l.length c).ownBlock ∧ (v'.ownBlock = (Value.slice A l.length c).ownBlock ∨ ∃ b, v'.ownBlock = some b ∧ w.heap.size ≤ b) := by
      intro W hW b0 hb0 hat W2 hW2 hE2
      subst hb0
      refine (insertP base W2 _ l j (k, x) W.heap.size hj (HOo.out.ext hE2) (Nat.le_trans hbase hE2.size) (fun e => ?_) hbig (by rw [hW2]; exact heap_alloc_new W _)).mono ?_
      · have := HLT.out _ e
        have := hW.size
        omega
      · rintro e w' ⟨v', h1, h2, h3, h4⟩
        refine ⟨v', h1, by rw [HT.out hat]; exact h2, (grown_of_below hE2 _).trans h3, ?_⟩
        rcases h4 with h4 | ⟨b, h4, h5⟩
        · exact .inl h4
        · exact .inr ⟨b, h4, Nat.le_trans hE2.size h5⟩
    have FIN := Lib.hid fin; clear fin
    clear hE hinv hcl
    by_cases hlt : j < l.length
    · obtain ⟨b, off, rfl, hb, c1, c2⟩ := (HRd.out.ext (HW.out _ HE.out)).pr hlt
      cases hk : bl l[j].1.data.toList k.data.toList with
      | true =>
        have hk2 : Op.bytesLess l[j].1.toList k.toList = true := by rw [toList_data, toList_data]; exact hk
        have HK := Lib.hid hk; clear hk
        go_wp2
        go_quiet (fail)
        go_wp2
        go_roundw
        case rel => exact ⟨j + 1, by omega, by go_num, HE.out.drewN _, fun t h ht => by
          rcases (show t = j ∨ t < j by omega) with rfl | ht
          · exact HK.out
          · exact HI.out t h ht⟩
        case measure => simp [intOf]; omega
      | false =>
        have hk2 : Op.bytesLess l[j].1.toList k.toList = false := by rw [toList_data, toList_data]; exact hk
        have HAT : Hid (putAt l (k, x) = j) := Lib.hid (putAt_eq l (k, x) j hj HI.out (fun _ => hk))
        clear hk
        go_wp2
        go_quiet (fail)
        go_wp2_with (go_at_call 57; refine (FIN.out wr (HW.out _ HE.out) _ (by rfl) HAT.out _ (by rfl) (((HW.out _ HE.out).alloc _).drewN _)).mono ?_; rintro e w' ⟨v', rfl, h⟩; have H := Lib.hid h; clear h)
        go_ret
        exact ⟨v', rfl, H.out⟩
    · have hd : decide ((j : Int) < (l.length : Int)) = false := by simp; omega
      have hd2 : decide (j < l.length) = false := by simp; omega
      have HAT : Hid (putAt l (k, x) = j) := Lib.hid (putAt_eq l (k, x) j hj HI.out (fun h => absurd h hlt))
      go_wp2
      go_quiet (fail)
      go_wp2_with (go_at_call 57; refine (FIN.out wr (HW.out _ HE.out) _ (by rfl) HAT.out _ (by rfl) (((HW.out _ HE.out).alloc _).drewN _)).mono ?_; rintro e w' ⟨v', rfl, h⟩; have H := Lib.hid h; clear h)
      go_ret
      exact ⟨v', rfl, H.out⟩

theorem Ext.grown {a w w' : World} {row : Option Nat} (h : Ext a w) (hg : w.grownBy w' row) (hr : ∀ k, row = some k → a.heap.size ≤ k) : Ext a w' := Below.grown h hg h.size hr
theorem grown_cell {w w' : World} {row : Option Nat} (hg : w.grownBy w' row) {b : Nat} (hb : b < w.heap.size) (hr : some b ≠ row) : ∀ o, w'.cell? ⟨b, o, none⟩ = w.cell? ⟨b, o, none⟩ := fun o => World.cell?_of_block (a := ⟨b, o, none⟩) (hg.block b hb hr)
theorem grown_frozen {w w' : World} {row : Option Nat} (hg : w.grownBy w' row) {b : Nat} (hb : b < w.heap.size) (hr : some b ≠ row) : ∀ o, w'.frozen? ⟨b, o, none⟩ = w.frozen? ⟨b, o, none⟩ := fun o => World.frozen?_of_block (a := ⟨b, o, none⟩) (hg.block b hb hr)
abbrev msgO (t p : ByteArray) (lv : Int) (rt : Bool) (pr ex : Int) (fr : ByteArray) (sq : Int) (s : Value) : Obj := .cells #[.string t, .string p, .int .i64 lv, .bool rt, .int .i64 pr, .int .i64 ex, .string fr, .int .i64 sq, s] 26
def RefMarkPost (q : ByteArray) (l : List Pr) (reason : Int) (t p : ByteArray) (lv : Int) (rt : Bool) (pr : Int) (fr : ByteArray) (sq : Int) (w : World) (e : Ending) (w' : World) : Prop :=
  ∃ (A : Option Addr) (c : Nat), e = .returned (.agg #[.string t, .string p, .int .i64 lv, .bool rt, .int .i64 pr, .int .i64 0, .string fr, .int .i64 sq, .slice A (outL q l reason).length c]) ∧ Rd encP 2 w' A (outL q l reason) ∧ Ext w w'
theorem any_marks (q : ByteArray) (l : List Pr) (reason : Int) (k : ByteArray) : ((marksP q l reason).any fun o => o.1.toList == k.toList) = ((k.toList == kDeaths.toList) || (k.toList == kDied.toList)) := by
  simp only [marksP, List.any_cons, List.any_nil, Bool.or_false]
  rw [Bool.beq_comm (a := kDeaths.toList), Bool.beq_comm (a := kDied.toList)]
set_option maxRecDepth 100000 in
set_option maxHeartbeats 3200000 in
theorem ref_Mark (q t p : ByteArray) (lv : Int) (rt : Bool) (pr ex : Int) (fr : ByteArray) (sq : Int) (A : Option Addr) (c : Nat) (l : List Pr) (reason : Int) (w : World)
    (hl : l.length ≤ maxLen) (hf : PrFit l) (hr : Rd encP 2 w A l) (hg : Glob w) (hr0 : -9223372036854775808 ≤ reason) (hr1 : reason ≤ 9223372036854775807) (hq : q.size ≤ 4096) :
    Calls Tryd.prog 24 #[.string q, .agg #[.string t, .string p, .int .i64 lv, .bool rt, .int .i64 pr, .int .i64 ex, .string fr, .int .i64 sq, .slice A l.length c], .int .i64 reason] w (RefMarkPost q l reason t p lv rt pr fr sq w) := by
  have hl' := hl
  unfold maxLen at hl'
  have HRd := Lib.hid hr; clear hr
  have HG := Lib.hid hg; clear hg
  have HF := Lib.hid hf; clear hf
  obtain ⟨hd0, hd1⟩ := deathsL_bd (getV l kDeaths).data.toList
  have hd : deathsL (getV l kDeaths).data.toList = deathsE l := rfl
  rw [hd] at hd0 hd1
  clear hd
  obtain ⟨base, hbase⟩ : ∃ base, base = w.heap.size + 2 := ⟨_, rfl⟩
  have HBE := Lib.hid hbase
  have hb2 : w.heap.size + 1 < base := by omega
  clear hbase
  go_enter Tryd.func24, Tryd.ntmps24
  go_wp2
  go_loopw [7, 14] (fun v i wr => ∃ (j : Nat) (v0 : Value), v0 = v ∧ j ≤ l.length ∧ i = .int .i64 j ∧ Own encP 2 35 base wr v (keepP (marksP q l reason) 6 (l.take j)) ∧ Ext ((w.alloc (msgO t p lv rt pr ex fr sq (.slice A l.length c))).alloc (msgO ⟨#[]⟩ ⟨#[]⟩ 0 false 0 0 ⟨#[]⟩ 0 (.slice none 0 0))) wr) (fun _ i _ => l.length - (intOf i).toNat)
  case atStart => exact ⟨0, _, rfl, by omega, rfl, by rw [List.take_zero, keep_nil]; exact Own.nil _ _ _ _ _, Ext.refl _⟩
  case round =>
    obtain ⟨j, v, rfl, hj, rfl, hO, hE⟩ := hrel
    have HO := Lib.hid hO
    have HE := Lib.hid hE
    have HTO : Hid (∀ W, Below base ((w.alloc (msgO t p lv rt pr ex fr sq (.slice A l.length c))).alloc (msgO ⟨#[]⟩ ⟨#[]⟩ 0 false 0 0 ⟨#[]⟩ 0 (.slice none 0 0))) W → Ext ((w.alloc (msgO t p lv rt pr ex fr sq (.slice A l.length c))).alloc (msgO ⟨#[]⟩ ⟨#[]⟩ 0 false 0 0 ⟨#[]⟩ 0 (.slice none 0 0))) W) := Lib.hid (fun W h => by have e : ((w.alloc (msgO t p lv rt pr ex fr sq (.slice A l.length c))).alloc (msgO ⟨#[]⟩ ⟨#[]⟩ 0 false 0 0 ⟨#[]⟩ 0 (.slice none 0 0))).heap.size = base := (by rw [HBE.out]; simp); unfold Ext; rw [e]; exact h)
    have HFR : Hid (∀ W, Ext ((w.alloc (msgO t p lv rt pr ex fr sq (.slice A l.length c))).alloc (msgO ⟨#[]⟩ ⟨#[]⟩ 0 false 0 0 ⟨#[]⟩ 0 (.slice none 0 0))) W → Below base ((w.alloc (msgO t p lv rt pr ex fr sq (.slice A l.length c))).alloc (msgO ⟨#[]⟩ ⟨#[]⟩ 0 false 0 0 ⟨#[]⟩ 0 (.slice none 0 0))) W) := Lib.hid (fun W h => by have e : ((w.alloc (msgO t p lv rt pr ex fr sq (.slice A l.length c))).alloc (msgO ⟨#[]⟩ ⟨#[]⟩ 0 false 0 0 ⟨#[]⟩ 0 (.slice none 0 0))).heap.size = base := (by rw [HBE.out]; simp); unfold Ext at h; rw [e] at h; exact h)
    have HX : Hid (Ext w wr) := Lib.hid ((((Ext.refl w).alloc _).alloc _).trans hE)
    have hsz : base ≤ wr.heap.size := by have h1 := HBE.out; have h2 := hE.size; simp at h2; omega
    have hc := hE.cells
    have hfz := hE.frozens
    clear hO hE
    have hz0 : w.heap.size < wr.heap.size := by omega
    have hz1 : w.heap.size + 1 < wr.heap.size := by omega
    by_cases hlt : j < l.length
    · obtain ⟨b1, off1, rfl, hb1, c1, c2⟩ := (HRd.out.ext HX.out).pr hlt
      have hkl := keep_len (marksP q l reason) 6 (l.take j)
      obtain ⟨A', cc, rfl, hcc1, hcc2, _⟩ := HO.out.rd encP_len
      have HANY := Lib.hid (any_marks q l reason l[j].1)
      have HIN := Lib.hid (fun h hn => keep_in (os := marksP q l reason) (n := 6) hlt h hn)
      have HOUT := Lib.hid (fun h => keep_out (os := marksP q l reason) (n := 6) hlt h)
      have hbytes : ((keepP (marksP q l reason) 6 (l.take j)).length + 1) * 32 ≤ 140737488355328 := by omega
      generalize hn : (keepP (marksP q l reason) 6 (l.take j)).length = n at *
      have HN := Lib.hid hn; clear hn
      unfold maxLen at hcc2
      have HD1 : Hid (l[j].1.toList = [100, 101, 97, 116, 104, 115] → ((l[j].1.toList == kDeaths.toList) || (l[j].1.toList == kDied.toList)) = true) := Lib.hid (fun h => by
        have e : kDeaths.toList = [100, 101, 97, 116, 104, 115] := by rw [toList_data]
        rw [e, h]; rfl)
      have HD2 : Hid (l[j].1.toList = [100, 105, 101, 100] → ((l[j].1.toList == kDeaths.toList) || (l[j].1.toList == kDied.toList)) = true) := Lib.hid (fun h => by
        have e : kDied.toList = [100, 105, 101, 100] := by rw [toList_data]
        rw [e, h]; simp)
      have HD3 : Hid (¬ l[j].1.toList = [100, 101, 97, 116, 104, 115] → ¬ l[j].1.toList = [100, 105, 101, 100] → ((l[j].1.toList == kDeaths.toList) || (l[j].1.toList == kDied.toList)) = false) := Lib.hid (fun h1 h2 => by
        have e : kDied.toList = [100, 105, 101, 100] := by rw [toList_data]
        have e' : kDeaths.toList = [100, 101, 97, 116, 104, 115] := by rw [toList_data]
        rw [e, e']; simp [h1, h2])
      by_cases hk1 : l[j].1.toList = [100, 101, 97, 116, 104, 115]
      · have HM : Hid (keepP (marksP q l reason) 6 (l.take (j + 1)) = keepP (marksP q l reason) 6 (l.take j)) := Lib.hid (HOUT.out (.inl (by rw [HANY.out]; exact HD1.out hk1)))
        have hb1 : (l[j].1.toList == [100, 101, 97, 116, 104, 115]) = true := by simpa using hk1
        have HK1 := Lib.hid hk1
        go_wp2
        go_roundw
        case rel => exact ⟨j + 1, _, rfl, by omega, by go_num, by rw [HM.out]; exact HO.out.ext ((Ext.refl _).alloc _), HE.out.alloc _⟩
        case measure => simp [intOf]; omega
      · by_cases hk2 : l[j].1.toList = [100, 105, 101, 100]
        · have HM : Hid (keepP (marksP q l reason) 6 (l.take (j + 1)) = keepP (marksP q l reason) 6 (l.take j)) := Lib.hid (HOUT.out (.inl (by rw [HANY.out]; exact HD2.out hk2)))
          have hb1 : (l[j].1.toList == [100, 101, 97, 116, 104, 115]) = false := by simpa using hk1
          have hb2 : (l[j].1.toList == [100, 105, 101, 100]) = true := by simpa using hk2
          go_wp2
          go_roundw
          case rel => exact ⟨j + 1, _, rfl, by omega, by go_num, by rw [HM.out]; exact HO.out.ext ((Ext.refl _).alloc _), HE.out.alloc _⟩
          case measure => simp [intOf]; omega
        · have hb1 : (l[j].1.toList == [100, 101, 97, 116, 104, 115]) = false := by simpa using hk1
          have hb2 : (l[j].1.toList == [100, 105, 101, 100]) = false := by simpa using hk2
          by_cases hroom : n < 6
          · have HM : Hid (keepP (marksP q l reason) 6 (l.take (j + 1)) = keepP (marksP q l reason) 6 (l.take j) ++ [l[j]]) := Lib.hid (HIN.out (by rw [HANY.out]; exact HD3.out hk1 hk2) hroom)
            have hr1 : (n : Int) < 6 := by omega
            clear hroom hk1 hk2
            go_upto_region 6 with fail
            go_wp2_with (first
              | (at_builtin; refine wp_append1 encP (w0 := (w.alloc (msgO t p lv rt pr ex fr sq (.slice (some ⟨b1, off1, none⟩) l.length c))).alloc (msgO ⟨#[]⟩ ⟨#[]⟩ 0 false 0 0 ⟨#[]⟩ 0 (.slice none 0 0))) base (by rfl) _ _ 24 35 (.agg #[.string ByteArray.empty, .string ByteArray.empty]) 2 32 (by rfl) Tryd.underlying24 Tryd.infoPr rfl (by decide) (by decide) encP_len encP_one _ (keepP (marksP q l reason) 6 (l.take j)) l[j] (by rfl) (by simp [Act.eval]) (HO.out.ext ((Ext.refl _).alloc _)) (HFR.out _ (HE.out.alloc _)) (by simp; omega) (by rw [HN.out]; exact hbytes) ?_; intro v1 w2 HO1 HB1 hg1 _))
            go_roundw
            case rel => exact ⟨j + 1, _, rfl, by omega, by go_num, by rw [HM.out]; exact HO1, HTO.out _ HB1⟩
            case measure => simp [intOf]; omega
          · have HM : Hid (keepP (marksP q l reason) 6 (l.take (j + 1)) = keepP (marksP q l reason) 6 (l.take j)) := Lib.hid (HOUT.out (.inr hroom))
            have hr1 : ¬ (n : Int) < 6 := by omega
            clear hroom hk1 hk2
            go_wp2
            go_roundw
            case rel => exact ⟨j + 1, _, rfl, by omega, by go_num, by rw [HM.out]; exact HO.out.ext ((Ext.refl _).alloc _), HE.out.alloc _⟩
            case measure => simp [intOf]; omega
    · have HO2 : Hid (Own encP 2 35 base wr v ((bareL l).take 6)) := Lib.hid (by
        have h := HO.out
        rw [List.take_of_length_le (by omega), keepP_eq] at h
        exact h)
      clear HO
      have hkl : ((bareL l).take 6).length ≤ 6 := by simp; omega
      have HNE : Hid (∀ b, b = wr.heap.size ∨ b = w.heap.size + 1 → some b ≠ v.ownBlock) := Lib.hid (fun b h e => by
        have h1 := HO2.out.lt _ e.symm
        have h2 := HO2.out.base _ e.symm
        omega)
      have HOUT : Hid (outL q l reason = putL (putL ((bareL l).take 6) (kDeaths, strI (min (deathsE l + 1) 1099511627776))) (kDied, q ++ ⟨#[32]⟩ ++ strI reason)) := Lib.hid rfl
      generalize hL0 : (bareL l).take 6 = L0 at *
      clear hL0
      have hs1 := strI_size reason hr0 hr1
      have hn0 : -9223372036854775808 ≤ min (deathsE l + 1) 1099511627776 := by omega
      have hn1 : min (deathsE l + 1) 1099511627776 ≤ 9223372036854775807 := by omega
      have hq8 : ¬ 9223372036854775807 < q.size + 1 := by omega
      have hq9 : ¬ 9223372036854775807 < q.size + 1 + (strI reason).size := by omega
      have hss := set_same
      go_wp2_with (first
        | (go_at_call 15; refine (ref_Deaths t p lv rt pr ex fr sq A c l _ hl HF.out (HRd.out.ext (HX.out.alloc _)) (HG.out.ext (HX.out.alloc _))).mono ?_; rintro e w1 ⟨rfl, hE⟩; have hc1 := hE.cells; have hf1 := hE.frozens; have hz10 : wr.heap.size < w1.heap.size := (by have := hE.size; (try simp at this); omega); have hz11 : w.heap.size + 1 < w1.heap.size := (by omega); have HX1 := Lib.hid ((HX.out.alloc _).trans hE); have HY1 : Hid (Ext wr w1) := Lib.hid (((Ext.refl wr).alloc _).trans hE); clear hE)
        | (go_at_call_of 34 (Value.int .i64 reason); refine (itoa_I _ hr0 hr1 _ (HG.out.ext HX3.out)).mono ?_; rintro e w4 ⟨rfl, hE⟩; have hc4 := hE.cells; have hf4 := hE.frozens; have hz40 : wr.heap.size < w4.heap.size := (by have := hE.size; omega); have HX4 := Lib.hid (HX3.out.trans hE); have HO4 := Lib.hid (HO3.out.ext hE); have hsz4 : base ≤ w4.heap.size := Nat.le_trans hsz3 hE.size; clear hE)
        | (go_at_call 34; refine (itoa_I _ hn0 hn1 _ (HG.out.ext HX1.out)).mono ?_; rintro e w2 ⟨rfl, hE⟩; have hc2 := hE.cells; have hf2 := hE.frozens; have hz20 : wr.heap.size < w2.heap.size := (by have := hE.size; omega); have HX2 := Lib.hid (HX1.out.trans hE); have HO3 := Lib.hid (HO2.out.ext (HY1.out.trans hE)); have hsz2 : base ≤ w2.heap.size := Nat.le_trans hsz (HY1.out.trans hE).size; clear hE)
        | (go_at_call_of 41 v; refine (ref_put base v L0 kDeaths _ _ HO3.out hsz2 (by omega)).mono ?_; rintro e w3 ⟨v1, rfl, hO1, hg1, hl1⟩; have HNE1 : Hid (∀ b, b = wr.heap.size ∨ b = w.heap.size + 1 → some b ≠ v1.ownBlock) := Lib.hid (fun b h e => by rcases hl1 with hl1 | ⟨b', hl1, hb'⟩; (exact HNE.out b h (e.trans hl1)); (rw [hl1] at e; injection e with e; omega)); have hgc3 := grown_cell hg1 hz20 (HNE.out _ (.inl rfl)); have hgf3 := grown_frozen hg1 hz20 (HNE.out _ (.inl rfl)); have hgc3' := grown_cell hg1 (b := w.heap.size + 1) (by omega) (HNE.out _ (.inr rfl)); have hgf3' := grown_frozen hg1 (b := w.heap.size + 1) (by omega) (HNE.out _ (.inr rfl)); have hz30 : wr.heap.size < w3.heap.size := Nat.lt_of_lt_of_le hz20 hg1.size; have hz31 : w.heap.size + 1 < w3.heap.size := (by omega); have HX3 := Lib.hid (HX2.out.grown hg1 (fun k hk => by have := HO3.out.base _ hk; omega)); have hsz3 : base ≤ w3.heap.size := Nat.le_trans hsz2 hg1.size; have HO3 := Lib.hid hO1; clear hO1 hg1 hl1)
        | (go_at_call_of 41 v1; refine (ref_put base v1 (putL L0 (kDeaths, strI (min (deathsE l + 1) 1099511627776))) kDied _ _ HO4.out hsz4 (by rw [putL_len]; omega)).mono ?_; rintro e w5 ⟨v2, rfl, hO1, hg1, hl1⟩; have hgc5 := grown_cell hg1 hz40 (HNE1.out _ (.inl rfl)); have hgf5 := grown_frozen hg1 hz40 (HNE1.out _ (.inl rfl)); have hgc5' := grown_cell hg1 (b := w.heap.size + 1) (by omega) (HNE1.out _ (.inr rfl)); have hgf5' := grown_frozen hg1 (b := w.heap.size + 1) (by omega) (HNE1.out _ (.inr rfl)); have hz50 : wr.heap.size < w5.heap.size := Nat.lt_of_lt_of_le hz40 hg1.size; have hz51 : w.heap.size + 1 < w5.heap.size := (by omega); have HX5 := Lib.hid (HX4.out.grown hg1 (fun k hk => by have := HO4.out.base _ hk; omega)); obtain ⟨A2, c2, rfl, _, _, hrd⟩ := hO1.rd encP_len; have HR5 := Lib.hid hrd; have hfar := hO1.far rfl; have HF5 : Hid (∀ a, A2 = some a → w.heap.size + 1 < a.block) := Lib.hid (fun a h => Nat.lt_of_lt_of_le hb2 (hfar a h)); have HF5' : Hid (∀ a, A2 = some a → wr.heap.size ≠ a.block) := Lib.hid (fun a h e => by rcases hl1 with hl1 | ⟨b', hl1, hb'⟩; (subst h; exact HNE1.out wr.heap.size (.inl rfl) (by rw [← hl1, e]; rfl)); (subst h; injection hl1 with hl1; omega)); have hk8 : w5.cell? ⟨wr.heap.size, 8, none⟩ = some (.slice A l.length c) := (by go_simp); have hl8 := World.cell?_setCell_same _ _ (.slice A2 (putL (putL L0 (kDeaths, strI (min (deathsE l + 1) 1099511627776))) (kDied, q ++ ⟨#[32]⟩ ++ strI reason)).length c2) hk8; clear hO1 hg1 hl1 hrd hfar))
      go_wp2
      have hrb : ∀ o, (w5.setCell ⟨wr.heap.size, 8, none⟩ (.slice A2 (putL (putL L0 (kDeaths, strI (min (deathsE l + 1) 1099511627776))) (kDied, q ++ ⟨#[32]⟩ ++ strI reason)).length c2)).cell? ⟨w.heap.size + 1, o, none⟩ = w5.cell? ⟨w.heap.size + 1, o, none⟩ := fun o => World.cell?_setCell_other _ _ _ _ (by simp)
      have r0 : (w5.setCell ⟨wr.heap.size, 8, none⟩ (.slice A2 (putL (putL L0 (kDeaths, strI (min (deathsE l + 1) 1099511627776))) (kDied, q ++ ⟨#[32]⟩ ++ strI reason)).length c2)).cell? ⟨w.heap.size + 1, 0, none⟩ = some (.string ⟨#[]⟩) := (hrb 0).trans (by go_simp)
      have r1 : (w5.setCell ⟨wr.heap.size, 8, none⟩ (.slice A2 (putL (putL L0 (kDeaths, strI (min (deathsE l + 1) 1099511627776))) (kDied, q ++ ⟨#[32]⟩ ++ strI reason)).length c2)).cell? ⟨w.heap.size + 1, 1, none⟩ = some (.string ⟨#[]⟩) := (hrb 1).trans (by go_simp)
      have r2 : (w5.setCell ⟨wr.heap.size, 8, none⟩ (.slice A2 (putL (putL L0 (kDeaths, strI (min (deathsE l + 1) 1099511627776))) (kDied, q ++ ⟨#[32]⟩ ++ strI reason)).length c2)).cell? ⟨w.heap.size + 1, 2, none⟩ = some (.int .i64 0) := (hrb 2).trans (by go_simp)
      have r3 : (w5.setCell ⟨wr.heap.size, 8, none⟩ (.slice A2 (putL (putL L0 (kDeaths, strI (min (deathsE l + 1) 1099511627776))) (kDied, q ++ ⟨#[32]⟩ ++ strI reason)).length c2)).cell? ⟨w.heap.size + 1, 3, none⟩ = some (.bool false) := (hrb 3).trans (by go_simp)
      have r4 : (w5.setCell ⟨wr.heap.size, 8, none⟩ (.slice A2 (putL (putL L0 (kDeaths, strI (min (deathsE l + 1) 1099511627776))) (kDied, q ++ ⟨#[32]⟩ ++ strI reason)).length c2)).cell? ⟨w.heap.size + 1, 4, none⟩ = some (.int .i64 0) := (hrb 4).trans (by go_simp)
      have r5 : (w5.setCell ⟨wr.heap.size, 8, none⟩ (.slice A2 (putL (putL L0 (kDeaths, strI (min (deathsE l + 1) 1099511627776))) (kDied, q ++ ⟨#[32]⟩ ++ strI reason)).length c2)).cell? ⟨w.heap.size + 1, 5, none⟩ = some (.int .i64 0) := (hrb 5).trans (by go_simp)
      have r6 : (w5.setCell ⟨wr.heap.size, 8, none⟩ (.slice A2 (putL (putL L0 (kDeaths, strI (min (deathsE l + 1) 1099511627776))) (kDied, q ++ ⟨#[32]⟩ ++ strI reason)).length c2)).cell? ⟨w.heap.size + 1, 6, none⟩ = some (.string ⟨#[]⟩) := (hrb 6).trans (by go_simp)
      have r7 : (w5.setCell ⟨wr.heap.size, 8, none⟩ (.slice A2 (putL (putL L0 (kDeaths, strI (min (deathsE l + 1) 1099511627776))) (kDied, q ++ ⟨#[32]⟩ ++ strI reason)).length c2)).cell? ⟨w.heap.size + 1, 7, none⟩ = some (.int .i64 0) := (hrb 7).trans (by go_simp)
      have r8 : (w5.setCell ⟨wr.heap.size, 8, none⟩ (.slice A2 (putL (putL L0 (kDeaths, strI (min (deathsE l + 1) 1099511627776))) (kDied, q ++ ⟨#[32]⟩ ++ strI reason)).length c2)).cell? ⟨w.heap.size + 1, 8, none⟩ = some (.slice none 0 0) := (hrb 8).trans (by go_simp)
      refine bodyPost_ret (v := .agg #[.string t, .string p, .int .i64 lv, .bool rt, .int .i64 pr, .int .i64 0, .string fr, .int .i64 sq, .slice A2 (putL (putL L0 (kDeaths, strI (min (deathsE l + 1) 1099511627776))) (kDied, q ++ ⟨#[32]⟩ ++ strI reason)).length c2]) (by simp [results, Tryd.results24, go_sem, set_same, r0, r1, r2, r3, r4, r5, r6, r7, r8]) rfl ⟨A2, c2, by rw [HOUT.out], ?_, ?_⟩
      · rw [HOUT.out]
        exact (((((((((HR5.out.setne _ HF5'.out).set _ HF5.out).set _ HF5.out).set _ HF5.out).set _ HF5.out).set _ HF5.out).set _ HF5.out).set _ HF5.out).set _ HF5.out).set _ HF5.out
      · exact (((((((((HX5.out.set (Nat.le_of_lt hz0) _).set (Nat.le_succ _) _).set (Nat.le_succ _) _).set (Nat.le_succ _) _).set (Nat.le_succ _) _).set (Nat.le_succ _) _).set (Nat.le_succ _) _).set (Nat.le_succ _) _).set (Nat.le_succ _) _).set (Nat.le_succ _) _
end Go.Proofs.YthilbmdpbmkakaaDoor
