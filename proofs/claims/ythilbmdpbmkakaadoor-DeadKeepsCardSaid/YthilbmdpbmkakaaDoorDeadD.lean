/- Contracts of chapter 28: dead.with, its closures, and the sort of properties. -/
import Derived.Test.YthilbmdpbmkakaaDoorDeadC
import Derived.Test.YthilbmdpbmkakaaDoorSort
set_option linter.unusedVariables false
set_option linter.unusedSimpArgs false
namespace Go.Proofs.YthilbmdpbmkakaaDoor
open Go Go.RowKit Go.Proofs

theorem below_ext {B : Nat} {a w w1 : World} (h : Below B a w) (he : Ext w w1) (hB : B ≤ w.heap.size) : Below B a w1 :=
  h.trans ⟨he.os, he.tape, he.output, he.size, fun k hk => he.block k (Nat.lt_of_lt_of_le hk hB)⟩

theorem Ext.frozens {w w' : World} (h : Ext w w') : ∀ b o, b < w.heap.size → w'.frozen? ⟨b, o, none⟩ = w.frozen? ⟨b, o, none⟩ := fun b o hb => h.frozen (p := ⟨b, o, none⟩) hb
/-! ### the closures -/
set_option maxHeartbeats 800000 in
/-- o.Key == p.Key, p in the cell B. -/
theorem with1 (B : Nat) (k v : ByteArray) (w : World) (hB : B < w.heap.size) (h0 : w.cell? ⟨B, 0, none⟩ = some (.string k)) (h1 : w.cell? ⟨B, 1, none⟩ = some (.string v)) :
    PredBelow Tryd.prog 51 #[.pointer (some ⟨B, 0, none⟩)] (fun x => .agg (encP x).toArray) (fun x => x.1.toList == k.toList) w := fun W x hb => by
  have hc0 : W.cell? ⟨B, 0, none⟩ = some (.string k) := (hb.cell (p := ⟨B, 0, none⟩) hB).trans h0
  have hBW : B < W.heap.size := Nat.lt_of_lt_of_le hB hb.size
  have hne : B ≠ W.heap.size := by omega
  have HB := Lib.hid hb
  obtain ⟨a, b⟩ := x
  show Calls Tryd.prog 51 #[.agg #[.string a, .string b], .pointer (some ⟨B, 0, none⟩)] W _
  clear hb
  go_enter Tryd.func51, Tryd.ntmps51
  go_wp2
  go_ret
  exact ⟨rfl, HB.out.alloc HB.out.size _⟩
def cfP (x y : Pr) : Int := Lib.compareBytes x.1.data.toList y.1.data.toList
open Go.Sort in
set_option maxHeartbeats 800000 in
theorem with2 (x y : Pr) (W : World) : Calls Tryd.prog 53 #[.agg #[.string x.1, .string x.2], .agg #[.string y.1, .string y.2]] W fun e w' => e = .returned (.int .i64 (cfP x y)) ∧ ∃ q os', w' = grow (W.drewN q) os' := by
  have hcon := fun W' => Tryd.strings_Compare x.1 y.1 W'
  have H : Hid (cfP x y = Lib.compareBytes x.1.data.toList y.1.data.toList) := Lib.hid rfl
  obtain ⟨a, b⟩ := x
  obtain ⟨c, d⟩ := y
  go_enter Tryd.func53, Tryd.ntmps53
  go_wp2_with (go_at_call 54; refine (Tryd.strings_Compare _ _ _).mono ?_; rintro e w' ⟨rfl, rfl⟩)
  go_ret
  exact ⟨by rw [H.out]; rfl, 0, _, by rw [alloc_eq_grow, alloc_eq_grow, grow_grow]; rfl⟩
theorem swoP : Sort.SWO (ltOf cfP) where
  irrefl x := by simp [ltOf, cfP, cmp_neg, bl_irrefl]
  trans x y z h1 h2 := by simp only [ltOf, cfP, decide_eq_true_eq, cmp_neg] at *; exact bl_trans h1 h2
  ntrans x y z h1 h2 := by
    simp only [ltOf, cfP, decide_eq_false_iff_not, cmp_neg, Bool.not_eq_true] at *
    exact bl_ntrans h1 h2
/-- Ascending by keys. -/
def AscP (l : List Pr) : Prop := l.Pairwise fun p q => bl q.1.data.toList p.1.data.toList = false
open Go.Sort in
theorem sort_props (g base cap : Nat) (cur : Array Value) (l : List Pr) (w : World) (hl : 0 < l.length) (hbase : base ≤ g) (hb : w.heap[g]? = some (.cells cur 35 (0, 0))) (h1 : l.length ≤ cap) (h2 : cap ≤ maxLen) (h3 : cur.size = cap * 2) (ht : cur.toList.take (l.length * 2) = l.flatMap encP) (hsz : l.length < 4611686018427387904) :
    Calls Tryd.prog 52 #[.slice (some ⟨g, 0, none⟩) l.length cap, .func (.func 53) #[] #[]] w fun e w' => e = .returned (.tuple #[]) ∧ ∃ l' : List Pr, l'.Perm l ∧ AscP l' ∧ Own encP 2 35 base w' (.slice (some ⟨g, 0, none⟩) l.length cap) l' ∧ w.grownBy w' (some g) := by
  have eg : ∀ args w, (callFunc 53 args).run Tryd.prog w = .ok (.enter 53 args) w := enters_of Tryd.func53 (by kernel_rfl) rfl
  have hcon := AnyQ.slices_SortFunc Tryd.sortProp 2 Tryd.isAgg35 Tryd.sizeOf35 encP (fun _ => rfl) encP_one cfP swoP 53 #[] g 0 cap l.toArray w eg
    (fun _ _ _ _ x y => with2 x y _) (holdsK_own encP_len hb ht) (Array.getElem?_eq_some_iff.1 hb).1 (by simpa using hsz)
  change Calls Tryd.prog 52 _ _ _ at hcon
  have e1 : l.toArray.size = l.length := by simp
  rw [e1] at hcon
  refine hcon.mono ?_
  rintro e w' ⟨rfl, d', n, os, hp, hs, rfl⟩
  have hsz2 : d'.size = l.length := by rw [hp.1]; simp
  have hd : d'.toList.Perm l := by
    have h5 := hp.2.2
    rwa [← hsz2, Array.extract_size, hsz2, show l.toArray.extract 0 l.length = l.toArray by simp] at h5
  refine ⟨rfl, d'.toList, hd, ?_, ?_, grownBy_sortK encP 2 d'⟩
  · refine List.pairwise_iff_getElem.2 fun i j hi hj hij => ?_
    have h6 := hs i j (Nat.zero_le _) hij (by rw [← hsz2]; simpa using hj)
    rw [getElem!_pos d' i (by simpa using hi), getElem!_pos d' j (by simpa using hj)] at h6
    simp only [ltOf, cfP, decide_eq_false_iff_not, cmp_neg, Bool.not_eq_true] at h6
    simpa using h6
  · have := own_sortedK (enc := encP) (k := 2) (e := 35) (base := base) (fun _ => rfl) (n := n) (os := os) (l' := d'.toList) (by rw [Array.length_toList, hsz2]) hbase hb h1 h2 h3
    simpa [sortWorldK] using this

/-! ### with -/
/-- The properties that stay: those whose keys are none of os', at most n. -/
def keepP (os : List Pr) (n : Nat) (l : List Pr) : List Pr := (l.filter fun p => !os.any fun o => o.1.toList == p.1.toList).take n
theorem keep_nil (os : List Pr) (n : Nat) : keepP os n [] = [] := by simp [keepP]
theorem keep_len (os : List Pr) (n : Nat) (l : List Pr) : (keepP os n l).length ≤ n := by simp [keepP]; omega
theorem keep_in {os : List Pr} {n : Nat} {l : List Pr} {j : Nat} (hj : j < l.length) (h : (os.any fun o => o.1.toList == l[j].1.toList) = false) (hn : (keepP os n (l.take j)).length < n) : keepP os n (l.take (j + 1)) = keepP os n (l.take j) ++ [l[j]] := by
  unfold keepP at *
  rw [List.take_succ_eq_append_getElem hj, List.filter_append]
  have e : ([l[j]].filter fun p => !os.any fun o => o.1.toList == p.1.toList) = [l[j]] := by simp [h]
  rw [e]
  have hlt : ((l.take j).filter fun p => !os.any fun o => o.1.toList == p.1.toList).length < n := by
    rw [List.length_take] at hn; omega
  have a1 : ((l.take j).filter (fun p => !os.any fun o => o.1.toList == p.1.toList) ++ [l[j]]).take n = (l.take j).filter (fun p => !os.any fun o => o.1.toList == p.1.toList) ++ [l[j]] := List.take_of_length_le (by rw [List.length_append, List.length_singleton]; omega)
  have a2 : ((l.take j).filter fun p => !os.any fun o => o.1.toList == p.1.toList).take n = (l.take j).filter fun p => !os.any fun o => o.1.toList == p.1.toList := List.take_of_length_le (by omega)
  rw [a1, a2]
theorem keep_out {os : List Pr} {n : Nat} {l : List Pr} {j : Nat} (hj : j < l.length) (h : (os.any fun o => o.1.toList == l[j].1.toList) = true ∨ ¬ (keepP os n (l.take j)).length < n) : keepP os n (l.take (j + 1)) = keepP os n (l.take j) := by
  unfold keepP at *
  rw [List.take_succ_eq_append_getElem hj, List.filter_append]
  rcases h with h | h
  · have e : ([l[j]].filter fun p => !os.any fun o => o.1.toList == p.1.toList) = [] := by simp [h]
    rw [e, List.append_nil]
  · rw [List.length_take] at h
    exact List.take_append_of_le_length (by omega)
theorem Tryd.infoP : (Tryd.prog.info? 35).map (fun i => (i.zero, i.size, i.bytes)) = some (some (.agg #[.string ByteArray.empty, .string ByteArray.empty]), 2, 32) := by kernel_rfl
/-- Whether a key is one of os'. -/
theorem contains_keys (b off c : Nat) (os : List Pr) (B : Nat) (k v : ByteArray) (w : World) (ho : os.length ≤ maxLen) (hb : b < w.heap.size) (hc : ∀ j (h : j < os.length) i u, (encP os[j])[i]? = some u → w.cell? ⟨b, off + j * 2 + i, none⟩ = some u)
    (hB : B < w.heap.size) (h0 : w.cell? ⟨B, 0, none⟩ = some (.string k)) (h1 : w.cell? ⟨B, 1, none⟩ = some (.string v)) :
    Calls Tryd.prog 50 #[.slice (some ⟨b, off, none⟩) os.length c, .func (.func 51) #[] #[.pointer (some ⟨B, 0, none⟩)]] w fun e w' => e = .returned (.bool (os.any fun o => o.1.toList == k.toList)) ∧ Ext w w' := by
  have eg : ∀ args w, (callFunc 51 args).run Tryd.prog w = .ok (.enter 51 args) w := enters_of Tryd.func51 (by kernel_rfl) rfl
  have hcon := AnyQ.slices_ContainsFunc Tryd.containsFuncProp 2 Tryd.isAgg35 Tryd.sizeOf35 encP (fun _ => rfl) (fun x : Pr => x.1.toList == k.toList) 51 #[.pointer (some ⟨B, 0, none⟩)] eg b off os.length c os w
    (with1 B k v w hB h0 h1) (Nat.le_refl _) ho hb (fun j hj i u hu => hc j hj i u (by rwa [getElem!_pos os j hj] at hu))
  change Calls Tryd.prog 50 _ _ _ at hcon
  rw [List.take_of_length_le (Nat.le_refl _)] at hcon
  exact hcon

set_option maxRecDepth 100000 in
set_option maxHeartbeats 3200000 in
theorem dead_with (A D : Option Addr) (c d : Nat) (l os : List Pr) (w : World) (hl : l.length ≤ maxLen) (ho : 0 < os.length) (ho8 : os.length ≤ 8) (hr : Rd encP 2 w A l) (hr2 : Rd encP 2 w D os) :
    Calls Tryd.prog 36 #[.slice A l.length c, .slice D os.length d] w fun e w' => ∃ v out, e = .returned v ∧ Own encP 2 35 w.heap.size w' v out ∧ out.Perm (keepP os (8 - os.length) l ++ os) ∧ AscP out ∧ Ext w w' := by
  unfold maxLen at hl
  obtain ⟨B, hB⟩ : ∃ B, B = w.heap.size := ⟨_, rfl⟩
  have HBE := Lib.hid hB; clear hB
  have HR1 := Lib.hid hr; clear hr
  obtain ⟨b, off, rfl, hb, hc⟩ := hr2 ho
  have HC := Lib.hid hc; clear hc hr2
  have hbB : b < B := by rw [HBE.out]; exact hb
  have hos : os.length ≤ maxLen := by unfold maxLen; omega
  go_enter Tryd.func36, Tryd.ntmps36
  go_wp2
  go_loopw [5, 11] (fun v i wr => ∃ j : Nat, j ≤ l.length ∧ i = .int .i64 j ∧ Own encP 2 35 B wr v (keepP os (8 - os.length) (l.take j)) ∧ Below B w wr ∧ B ≤ wr.heap.size) (fun _ i _ => l.length - (intOf i).toNat)
  case atStart => exact ⟨0, by omega, rfl, by rw [List.take_zero, keep_nil]; exact Own.nil _ _ _ _ _, by rw [HBE.out]; exact Below.refl _ _, by rw [HBE.out]; exact Nat.le_refl _⟩
  case round =>
    obtain ⟨j, hj, rfl, hO, hBl, hsz⟩ := hrel
    have HO := Lib.hid hO; clear hO
    have HBl := Lib.hid hBl; clear hBl
    have HW : Hid (Ext w _) := Lib.hid (by rw [HBE.out] at HBl; exact HBl.out)
    by_cases hlt : j < l.length
    · obtain ⟨b1, off1, rfl, hb1, c1, c2⟩ := (HR1.out.ext HW.out).pr hlt
      have hkl := keep_len os (8 - os.length) (l.take j)
      have HK := Lib.hid (contains_keys b off d os wr.heap.size l[j].1 l[j].2 (wr.alloc (.cells #[.string l[j].1, .string l[j].2] 35)) hos (by simp; omega) (fun j hj i u hu => (HW.out.alloc _).cell (HC.out j hj i u hu)) (by simp) (by simp) (by simp))
      obtain ⟨A, cc, rfl, hcc1, hcc2, _⟩ := HO.out.rd encP_len
      have HIN := Lib.hid (fun h hn => keep_in (os := os) (n := 8 - os.length) hlt h hn)
      have HOUT := Lib.hid (fun h => keep_out (os := os) (n := 8 - os.length) hlt h)
      have hbytes : ((keepP os (8 - os.length) (l.take j)).length + 1) * 32 ≤ 140737488355328 := by omega
      generalize hn : (keepP os (8 - os.length) (l.take j)).length = n at *
      have HN := Lib.hid hn; clear hn
      unfold maxLen at hcc2
      cases hm : (os.any fun o => o.1.toList == l[j].1.toList) with
      | true =>
        rw [hm] at HK
        have HM := Lib.hid hm; clear hm
        go_wp2_with (first | (go_at_call 50; refine HK.out.mono ?_; rintro e w1 ⟨rfl, hE⟩; have hc1 := hE.cells; have HE := Lib.hid (Ext.trans ((Ext.refl wr).alloc _) hE); clear hE))
        go_roundw
        case rel => exact ⟨j + 1, by omega, by go_num, by rw [HOUT.out (.inl HM.out)]; exact HO.out.ext HE.out, below_ext HBl.out HE.out hsz, Nat.le_trans hsz HE.out.size⟩
        case measure => simp [intOf]; omega
      | false =>
        rw [hm] at HK
        have HM := Lib.hid hm; clear hm
        by_cases hroom : n < 8 - os.length
        · have hr1 : (n : Int) + (os.length : Int) < 8 := by omega
          have HR := Lib.hid hroom
          clear hroom
          go_wp2_with (first
            | (go_at_call 50; refine HK.out.mono ?_; rintro e w1 ⟨rfl, hE⟩; have hc1 := hE.cells; have HE := Lib.hid (Ext.trans ((Ext.refl wr).alloc _) hE); have hsz1 : B ≤ w1.heap.size := (Nat.le_trans hsz HE.out.size); clear hE)
            | (at_builtin; refine wp_append1 encP (w0 := w) B (by rfl) _ _ 24 35 (.agg #[.string ByteArray.empty, .string ByteArray.empty]) 2 32 (by rfl) Tryd.underlying24 Tryd.infoP rfl (by decide) (by decide) encP_len encP_one _ (keepP os (8 - os.length) (l.take j)) l[j] (by rfl) (by rfl) (HO.out.ext HE.out) (below_ext HBl.out HE.out hsz) hsz1 (by rw [HN.out]; exact hbytes) ?_; intro v1 w2 HO1 HB1 hg1 _))
          go_roundw
          case rel => exact ⟨j + 1, by omega, by go_num, by rw [HIN.out HM.out HR.out]; exact HO1, HB1, by have := hg1.size; omega⟩
          case measure => simp [intOf]; omega
        · have hr1 : ¬ (n : Int) + (os.length : Int) < 8 := by omega
          have HR := Lib.hid hroom
          clear hroom
          go_wp2_with (first | (go_at_call 50; refine HK.out.mono ?_; rintro e w1 ⟨rfl, hE⟩; have hc1 := hE.cells; have HE := Lib.hid (Ext.trans ((Ext.refl wr).alloc _) hE); clear hE))
          go_roundw
          case rel => exact ⟨j + 1, by omega, by go_num, by rw [HOUT.out (.inr HR.out)]; exact HO.out.ext HE.out, below_ext HBl.out HE.out hsz, Nat.le_trans hsz HE.out.size⟩
          case measure => simp [intOf]; omega
    · have HT : Hid (keepP os (8 - os.length) (l.take j) = keepP os (8 - os.length) l) := Lib.hid (by rw [List.take_of_length_le (by omega)])
      have hkl := keep_len os (8 - os.length) (l.take j)
      have hbytes : ((keepP os (8 - os.length) (l.take j)).length + os.length) * 32 ≤ 140737488355328 := by omega
      go_wp2_with (first
        | (at_builtin; refine wp_appendN encP (w0 := w) B (by rfl) _ _ 24 35 (.agg #[.string ByteArray.empty, .string ByteArray.empty]) 2 32 (by rfl) Tryd.underlying24 Tryd.infoP rfl (by decide) (by decide) encP_len encP_one _ (keepP os (8 - os.length) (l.take j)) os b off d (by rfl) (by rfl) (fun j hj i u hu => HW.out.cell (HC.out j hj i u hu)) HO.out HBl.out hsz hbytes ?_; intro v1 w1 HO1 HB1 hg1 _; obtain ⟨L, hL⟩ : ∃ L, L = keepP os (8 - os.length) (l.take j) ++ os := ⟨_, rfl⟩; rw [← hL] at HO1; have hLp : 0 < L.length := (by rw [hL, List.length_append]; omega); have hLb : L.length < 4611686018427387904 := (by rw [hL, List.length_append]; omega); have HL := Lib.hid hL; clear hL; obtain ⟨g, cap, cur, rfl, hg0, hgb, hg2, hg3, hg4, hg5⟩ := HO1.form hLp; have HS := Lib.hid (sort_props g B cap cur L w1 hLp hg0 hgb hg2 hg3 hg4 hg5 hLb); have HG0 := Lib.hid hg0; have HB1' := Lib.hid HB1; have HSZ := Lib.hid hg1.size; clear HO1 hg1 hgb hg4 hg5 hg0 HB1)
        | (go_at_call 52; refine HS.out.mono ?_; rintro e w2 ⟨rfl, l', hp, ha, HO2, hg6⟩; have HP := Lib.hid hp; have HA := Lib.hid ha; have HO2' := Lib.hid HO2; have HG6 := Lib.hid hg6; clear hp ha HO2 hg6))
      go_ret
      refine ⟨_, l', rfl, by rw [← HBE.out]; exact HO2'.out, ?_, HA.out, ?_⟩
      · have := HP.out
        rw [HL.out, HT.out] at this
        exact this
      · have h9 := HB1'.out.grown HG6.out (by have := HSZ.out; omega) (fun k hk => by injection hk with hk; have := HG0.out; omega)
        rw [HBE.out] at h9
        exact h9
end Go.Proofs.YthilbmdpbmkakaaDoor
