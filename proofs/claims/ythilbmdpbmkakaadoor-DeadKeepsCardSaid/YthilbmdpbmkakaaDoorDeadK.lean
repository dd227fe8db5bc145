/- Chapter 28: plain facts about marked properties: sorted lists, put, what stays, what the marks say. -/
import Derived.Test.YthilbmdpbmkakaaDoorDeadG
set_option linter.unusedVariables false
set_option linter.unusedSimpArgs false
namespace Go.Proofs.YthilbmdpbmkakaaDoor
open Go Go.RowKit

/-- Strictly ascending by keys. -/
def AscS (l : List Pr) : Prop := l.Pairwise fun p q => bl p.1.data.toList q.1.data.toList = true
theorem AscS.asc {l : List Pr} (h : AscS l) : AscP l := List.Pairwise.imp (fun h => bl_asymm h) h
def Dis (l : List Pr) : Prop := l.Pairwise fun p q => p.1.data.toList ≠ q.1.data.toList
theorem AscS.dis {l : List Pr} (h : AscS l) : Dis l := List.Pairwise.imp (fun {p q} h e => by
  have h' : bl p.1.data.toList q.1.data.toList = true := h
  rw [e, bl_irrefl] at h'; cases h') h
theorem AscP.strict {l : List Pr} (h : AscP l) (k : Dis l) : AscS l := by
  have := List.pairwise_and_iff.2 ⟨h, k⟩
  refine List.Pairwise.imp ?_ this
  intro p q ⟨a, b⟩
  cases h2 : bl p.1.data.toList q.1.data.toList with
  | true => rfl
  | false => exact absurd (bl_tri h2 a) b
theorem leS_bl {p q : ByteArray} (h : leS p q = false) : bl q.data.toList p.data.toList = true := by
  simp only [leS, toList_data, Bool.or_eq_false_iff, beq_eq_false_iff_ne] at h
  cases h2 : bl q.data.toList p.data.toList with
  | true => rfl
  | false => exact absurd (bl_tri h.1 h2) h.2
theorem bl_leS {p q : ByteArray} (h : bl q.data.toList p.data.toList = true) : leS p q = false := by
  simp only [leS, toList_data, Bool.or_eq_false_iff, beq_eq_false_iff_ne]
  refine ⟨bl_asymm h, fun e => ?_⟩
  rw [e, bl_irrefl] at h
  cases h
theorem propsGo_ok : ∀ (l : List Pr) (prev : Option ByteArray), propsGo prev l = 0 → AscS l ∧ (∀ p ∈ l, keyB p.1.data.toList = true ∧ p.2.size ≤ 160) ∧ (∀ q, prev = some q → ∀ p ∈ l, bl q.data.toList p.1.data.toList = true)
  | [], _, _ => ⟨List.Pairwise.nil, fun p hp => by simp at hp, fun q _ p hp => by simp at hp⟩
  | p :: l, prev, h => by
    simp only [propsGo] at h
    split at h
    · omega
    · rename_i hk
      split at h
      · omega
      · rename_i hs
        split at h
        · omega
        · rename_i hp
          obtain ⟨h1, h2, h3⟩ := propsGo_ok l (some p.1) h
          have hq : ∀ q, prev = some q → bl q.data.toList p.1.data.toList = true := fun q hq => by
            subst hq
            exact leS_bl (by simpa using hp)
          refine ⟨List.pairwise_cons.2 ⟨fun r hr => h3 _ rfl r hr, h1⟩, fun r hr => ?_, fun q e r hr => ?_⟩
          · rcases List.mem_cons.1 hr with rfl | hr
            · exact ⟨by simpa using hk, by omega⟩
            · exact h2 r hr
          · rcases List.mem_cons.1 hr with rfl | hr
            · exact hq q e
            · exact bl_trans (hq q e) (h3 _ rfl r hr)
theorem propsGo_of : ∀ (l : List Pr) (prev : Option ByteArray), AscS l → (∀ p ∈ l, keyB p.1.data.toList = true ∧ p.2.size ≤ 160) → (∀ q, prev = some q → ∀ p ∈ l, bl q.data.toList p.1.data.toList = true) → propsGo prev l = 0
  | [], _, _, _, _ => rfl
  | p :: l, prev, h1, h2, h3 => by
    have a := h2 p (by simp)
    rw [AscS, List.pairwise_cons] at h1
    simp only [propsGo]
    rw [if_neg (by rw [a.1]; decide), if_neg (by omega), if_neg]
    · exact propsGo_of l _ h1.2 (fun r hr => h2 r (List.mem_cons_of_mem _ hr)) (fun q e r hr => by injection e with e; subst e; exact h1.1 r hr)
    · cases prev with
      | none => simp
      | some q => simp [bl_leS (h3 q rfl p (by simp))]
theorem propsE_ok {l : List Pr} (h : propsE l = 0) : AscS l ∧ (∀ p ∈ l, keyB p.1.data.toList = true ∧ p.2.size ≤ 160) ∧ l.length ≤ 8 := by
  unfold propsE at h
  split at h
  · omega
  · obtain ⟨a, b, _⟩ := propsGo_ok l none h
    exact ⟨a, b, by omega⟩
theorem propsE_of {l : List Pr} (h1 : AscS l) (h2 : ∀ p ∈ l, keyB p.1.data.toList = true ∧ p.2.size ≤ 160) (h3 : l.length ≤ 8) : propsE l = 0 := by
  unfold propsE
  rw [if_neg (by omega)]
  exact propsGo_of l none h1 h2 (fun q e => by cases e)

/-! ### put -/
def putL : List Pr → Pr → List Pr
  | [], p => [p]
  | q :: l, p => if bl q.1.data.toList p.1.data.toList = true then q :: putL l p else p :: q :: l
def putAt : List Pr → Pr → Nat
  | [], _ => 0
  | q :: l, p => if bl q.1.data.toList p.1.data.toList = true then putAt l p + 1 else 0
theorem putL_at : ∀ (l : List Pr) (p : Pr), putL l p = l.take (putAt l p) ++ p :: l.drop (putAt l p)
  | [], _ => rfl
  | q :: l, p => by
    simp only [putL, putAt]
    split
    · simp [putL_at l p]
    · simp
theorem putAt_eq : ∀ (l : List Pr) (p : Pr) (j : Nat), j ≤ l.length → (∀ i (h : i < l.length), i < j → bl l[i].1.data.toList p.1.data.toList = true) → (∀ h : j < l.length, bl l[j].1.data.toList p.1.data.toList = false) → putAt l p = j
  | [], p, j, hj, _, _ => by simp at hj; simp [putAt, hj]
  | q :: l, p, 0, _, _, h2 => by
    have := h2 (by simp)
    simp only [List.getElem_cons_zero] at this
    simp [putAt, this]
  | q :: l, p, j + 1, hj, h1, h2 => by
    have a := h1 0 (by simp) (by omega)
    simp only [List.getElem_cons_zero] at a
    simp only [putAt, a, if_true]
    rw [putAt_eq l p j (by simpa using hj) (fun i h hi => by have := h1 (i + 1) (by simpa using h) (by omega); simpa using this) (fun h => by have := h2 (by simpa using h); simpa using this)]
theorem putL_perm : ∀ (l : List Pr) (p : Pr), (putL l p).Perm (p :: l)
  | [], _ => .refl _
  | q :: l, p => by
    simp only [putL]
    split
    · exact ((putL_perm l p).cons q).trans (.swap p q l)
    · exact .refl _
theorem putL_asc : ∀ (l : List Pr) (p : Pr), AscP l → AscP (putL l p)
  | [], _, _ => List.pairwise_singleton _ _
  | q :: l, p, h => by
    rw [AscP, List.pairwise_cons] at h
    simp only [putL]
    split
    · rename_i hb
      refine List.pairwise_cons.2 ⟨fun r hr => ?_, putL_asc l p h.2⟩
      rcases List.mem_cons.1 ((putL_perm l p).mem_iff.1 hr) with rfl | hr
      · exact bl_asymm hb
      · exact h.1 r hr
    · rename_i hb
      have hb' : bl q.1.data.toList p.1.data.toList = false := by simpa using hb
      refine List.pairwise_cons.2 ⟨fun r hr => ?_, List.pairwise_cons.2 h⟩
      rcases List.mem_cons.1 hr with rfl | hr
      · exact hb'
      · exact bl_ntrans (h.1 r hr) hb'
theorem putL_len (l : List Pr) (p : Pr) : (putL l p).length = l.length + 1 := by rw [(putL_perm l p).length_eq]; simp

/-! ### what stays -/
def notMark (p : Pr) : Bool := !(p.1.toList == kDeaths.toList) && !(p.1.toList == kDied.toList)
def bareL (l : List Pr) : List Pr := l.filter notMark
def mk1 (l : List Pr) : Pr := (kDeaths, strI (nextD l))
def mk2 (q : ByteArray) (reason : Int) : Pr := (kDied, q ++ ⟨#[32]⟩ ++ strI reason)
theorem marksP_eq (q : ByteArray) (l : List Pr) (reason : Int) : marksP q l reason = [mk1 l, mk2 q reason] := rfl
theorem keepP_eq (q : ByteArray) (l m : List Pr) (reason : Int) (n : Nat) : keepP (marksP q l reason) n m = (bareL m).take n := by
  unfold keepP bareL
  congr 1
  apply List.filter_congr
  intro p _
  simp only [marksP, List.any_cons, List.any_nil, Bool.or_false, Bool.not_or, notMark]
  rw [Bool.beq_comm (a := kDeaths.toList), Bool.beq_comm (a := kDied.toList)]
def outL (q : ByteArray) (l : List Pr) (reason : Int) : List Pr := putL (putL ((bareL l).take 6) (mk1 l)) (mk2 q reason)
theorem kept_sub (l : List Pr) : ((bareL l).take 6).Sublist l := (List.take_sublist _ _).trans List.filter_sublist
theorem kept_not {l : List Pr} {p : Pr} (h : p ∈ (bareL l).take 6) : notMark p = true := (List.mem_filter.1 (List.mem_of_mem_take h)).2
theorem outL_perm (q : ByteArray) (l : List Pr) (reason : Int) : (outL q l reason).Perm ((bareL l).take 6 ++ marksP q l reason) := by
  refine (putL_perm _ _).trans (((putL_perm _ _).cons _).trans ?_)
  rw [marksP_eq]
  have h : ((bareL l).take 6 ++ [mk1 l, mk2 q reason]).Perm ([mk1 l, mk2 q reason] ++ (bareL l).take 6) := List.perm_append_comm
  refine .trans ?_ h.symm
  exact .swap _ _ _
theorem notMark_ne {p : Pr} (h : notMark p = true) : p.1.data.toList ≠ kDeaths.data.toList ∧ p.1.data.toList ≠ kDied.data.toList := by
  simp only [notMark, toList_data, Bool.and_eq_true, Bool.not_eq_true', beq_eq_false_iff_ne] at h
  exact h
theorem dis_marks {l : List Pr} (h : Dis l) (q : ByteArray) (reason : Int) : Dis ((bareL l).take 6 ++ marksP q l reason) := by
  refine List.pairwise_append.2 ⟨List.Pairwise.sublist (kept_sub l) h, ?_, fun p hp r hr => ?_⟩
  · rw [marksP_eq]
    simp [mk1, mk2]
  · have hk := notMark_ne (kept_not hp)
    rw [marksP_eq] at hr
    simp only [List.mem_cons, List.not_mem_nil, or_false] at hr
    rcases hr with rfl | rfl
    · exact hk.1
    · exact hk.2
theorem Dis.perm {l m : List Pr} (h : Dis l) (hp : m.Perm l) : Dis m := (hp.pairwise_iff (fun h e => h e.symm)).2 h
theorem outL_dis {l : List Pr} (h : AscS l) (q : ByteArray) (reason : Int) : Dis (outL q l reason) := (dis_marks h.dis q reason).perm (outL_perm q l reason)
theorem outL_asc {l : List Pr} (h : AscS l) (q : ByteArray) (reason : Int) : AscP (outL q l reason) :=
  putL_asc _ _ (putL_asc _ _ (List.Pairwise.sublist (kept_sub l) h.asc))
theorem outL_strict {l : List Pr} (h : AscS l) (q : ByteArray) (reason : Int) : AscS (outL q l reason) := (outL_asc h q reason).strict (outL_dis h q reason)
theorem mark_out {l out : List Pr} {q : ByteArray} {reason : Int} (h : AscS l) (hp : out.Perm (keepP (marksP q l reason) 6 l ++ marksP q l reason)) (ha : AscP out) : out = outL q l reason := by
  rw [keepP_eq] at hp
  exact asc_eq (hp.trans (outL_perm q l reason).symm) ha (outL_asc h q reason) (outL_dis h q reason)
theorem outL_mem1 (q : ByteArray) (l : List Pr) (reason : Int) : mk1 l ∈ outL q l reason := (outL_perm q l reason).mem_iff.2 (by rw [marksP_eq]; simp)
theorem outL_mem2 (q : ByteArray) (l : List Pr) (reason : Int) : mk2 q reason ∈ outL q l reason := (outL_perm q l reason).mem_iff.2 (by rw [marksP_eq]; simp)
theorem outL_len (q : ByteArray) (l : List Pr) (reason : Int) : (outL q l reason).length ≤ 8 := by
  rw [(outL_perm q l reason).length_eq, marksP_eq]
  simp
  omega
theorem bareL_bare (l : List Pr) : bareL ((bareL l).take 6) = (bareL l).take 6 := by
  unfold bareL
  rw [List.filter_eq_self]
  intro p hp
  exact kept_not (l := l) hp
theorem bareL_marks (q : ByteArray) (l : List Pr) (reason : Int) : bareL (marksP q l reason) = [] := by
  rw [marksP_eq]
  simp [bareL, notMark, mk1, mk2]
theorem bareL_out {l : List Pr} (h : AscS l) (q : ByteArray) (reason : Int) : bareL (outL q l reason) = (bareL l).take 6 := by
  have hp : (bareL (outL q l reason)).Perm (bareL ((bareL l).take 6 ++ marksP q l reason)) := (outL_perm q l reason).filter _
  have e : bareL ((bareL l).take 6 ++ marksP q l reason) = (bareL l).take 6 := by
    have : bareL ((bareL l).take 6 ++ marksP q l reason) = bareL ((bareL l).take 6) ++ bareL (marksP q l reason) := List.filter_append ..
    rw [this, bareL_bare, bareL_marks, List.append_nil]
  rw [e] at hp
  exact asc_eq hp (List.Pairwise.sublist List.filter_sublist (outL_asc h q reason)) (List.Pairwise.sublist (kept_sub l) h.asc) (List.Pairwise.sublist (kept_sub l) h.dis)
theorem outL_again {l : List Pr} (h : AscS l) (q : ByteArray) (reason : Int) : bareL (outL q (outL q l reason) reason) = bareL (outL q l reason) := by
  rw [bareL_out (outL_strict h q reason) q reason, bareL_out h q reason, List.take_of_length_le (by simp; omega)]

/-! ### what the marks say -/
theorem getP_mem : ∀ {l : List Pr} {k v : ByteArray}, Dis l → (k, v) ∈ l → getP l k = some v
  | [], _, _, _, h => by simp at h
  | p :: l, k, v, hd, h => by
    rw [Dis, List.pairwise_cons] at hd
    simp only [getP]
    rcases List.mem_cons.1 h with rfl | h
    · simp
    · rw [if_neg]
      · exact getP_mem hd.2 h
      · have := hd.1 _ h
        simpa [toList_data] using this
theorem getP_none : ∀ {l : List Pr} {k : ByteArray}, (∀ p ∈ l, p.1.data.toList ≠ k.data.toList) → getP l k = none
  | [], _, _ => rfl
  | p :: l, k, h => by
    simp only [getP]
    rw [if_neg]
    · exact getP_none fun r hr => h r (List.mem_cons_of_mem _ hr)
    · have := h p (by simp)
      simpa [toList_data] using this
theorem digit_of (n : Nat) (h : n < 10) : digitB (UInt8.ofNat (48 + n)) = true ∧ (UInt8.ofNat (48 + n)).toNat - 48 = n := by
  have e : (UInt8.ofNat (48 + n)).toNat = 48 + n := by simp; omega
  exact ⟨(digitB_iff _).2 (by rw [e]; omega), by rw [e]; omega⟩
theorem dec_all (u : Nat) : (Lib.decDigits u).all digitB = true ∧ numL (Lib.decDigits u) = u := by
  induction u using Nat.strongRecOn with
  | ind u ih =>
    rw [Lib.decDigits]
    split
    · rename_i h
      have := digit_of u h
      have e : numL [UInt8.ofNat (48 + u)] = 10 * 0 + ((UInt8.ofNat (48 + u)).toNat - 48) := rfl
      refine ⟨by rw [List.all_cons, this.1]; rfl, ?_⟩
      rw [e, this.2]; omega
    · rename_i h
      have a := ih (u / 10) (by omega)
      have b := digit_of (u % 10) (by omega)
      exact ⟨by rw [List.all_append, a.1, List.all_cons, b.1]; rfl, by rw [numL_snoc, a.2, b.2]; omega⟩
theorem dec_len : ∀ (k u : Nat), u < 10 ^ (k + 1) → (Lib.decDigits u).length ≤ k + 1
  | 0, u, h => by rw [Lib.decDigits_one (by simpa using h)]; simp
  | k + 1, u, h => by
    rw [Lib.decDigits]
    split
    · simp
    · rw [List.length_append, List.length_singleton]
      have := dec_len k (u / 10) (by rw [Nat.pow_succ] at h; omega)
      omega
theorem dec_lead (u : Nat) : leadB (Lib.decDigits u) = false := by
  cases h : leadB (Lib.decDigits u) with
  | false => rfl
  | true =>
    have h1 := (lead_of _).1 h
    have h2 := dec_head u h1.1
    subst h2
    rw [Lib.decDigits_one (by omega)] at h1
    simp at h1
theorem deathsL_itoa (n : Int) (h0 : 0 ≤ n) (h1 : n ≤ 1099511627776) : deathsL (strI n).data.toList = n := by
  obtain ⟨u, rfl⟩ := Int.eq_ofNat_of_zero_le h0
  rw [strI_list, Lib.itoa_nonneg]
  have hl := dec_len 12 u (by have : (10 : Nat) ^ 13 = 10000000000000 := by decide
                              show u < 10 ^ 13; omega)
  have hp : 0 < (Lib.decDigits u).length := List.length_pos_iff.2 (dec_ne u)
  have ha := dec_all u
  unfold deathsL
  rw [if_neg (by omega), if_neg (by rw [ha.1]; decide), if_neg (by rw [dec_lead]; decide), if_neg (by rw [ha.2]; omega), ha.2]
theorem nextD_bd (l : List Pr) : 0 ≤ nextD l ∧ nextD l ≤ 1099511627776 := by
  have := deathsL_bd (getV l kDeaths).data.toList
  have e : deathsL (getV l kDeaths).data.toList = deathsE l := rfl
  rw [e] at this
  unfold nextD
  omega
/-- Where keys name members, the marks are found again. -/
theorem deaths_of {l out : List Pr} {q : ByteArray} {reason : Int} (hd : Dis out) (h : mk1 l ∈ out) : deathsE out = nextD l := by
  have hb := nextD_bd l
  have : getV out kDeaths = strI (nextD l) := by rw [getV, getP_mem hd h]; rfl
  rw [deathsE, this, deathsL_itoa _ hb.1 hb.2]
theorem died_of {out : List Pr} {q : ByteArray} {reason : Int} (hd : Dis out) (h : mk2 q reason ∈ out) : getV out kDied = q ++ ⟨#[32]⟩ ++ strI reason := by
  rw [getV, getP_mem hd h]; rfl
theorem index_sp : ∀ (a b : List UInt8), (32 : UInt8) ∉ a → Lib.index (a ++ 32 :: b) [32] = (a.length : Int)
  | [], b, _ => by simp [Lib.index]
  | c :: a, b, h => by
    have hc : c ≠ 32 := fun e => h (by simp [e])
    have ih := index_sp a b (fun x => h (List.mem_cons_of_mem _ x))
    have hp : ([32] : List UInt8).isPrefixOf (c :: (a ++ 32 :: b)) = false := by
      have : ((32 : UInt8) == c) = false := by simpa using fun e => hc e.symm
      simp [List.isPrefixOf, this]
    simp only [List.cons_append, Lib.index, hp, ih]
    have : ((a.length : Int) == -1) = false := by simp
    simp [this]
theorem name_nosp {l : List UInt8} (h : nameB l = true) : (32 : UInt8) ∉ l := by
  intro hm
  simp only [nameB, Bool.and_eq_true] at h
  have := List.all_eq_true.1 h.2 _ hm
  revert this
  decide
theorem cut_sp (a b : List UInt8) (h : (32 : UInt8) ∉ a) : Lib.cut (a ++ 32 :: b) [32] = (a, b, true) := by
  unfold Lib.cut
  rw [index_sp a b h, if_pos (by omega)]
  simp
theorem from_of (q : ByteArray) (reason : Int) (hq : nameB q.data.toList = true) (h1 : 1 ≤ reason) (h2 : reason ≤ 4) :
    fromN (q ++ ⟨#[32]⟩ ++ strI reason) = q ∧ fromI (q ++ ⟨#[32]⟩ ++ strI reason) = reason := by
  have hs : strI reason = ⟨#[UInt8.ofNat (48 + reason.toNat)]⟩ := by
    have := strI_digit reason.toNat (by omega)
    rwa [Int.toNat_of_nonneg (by omega)] at this
  have hd : (q ++ ⟨#[32]⟩ ++ strI reason).data.toList = q.data.toList ++ 32 :: (strI reason).data.toList := by simp
  have hc := cut_sp q.data.toList (strI reason).data.toList (name_nosp hq)
  have eN : cutN (q ++ ⟨#[32]⟩ ++ strI reason) = q := by rw [cutN, hd, hc]
  have eR : cutR (q ++ ⟨#[32]⟩ ++ strI reason) = strI reason := by rw [cutR, hd, hc]
  have eK : cutK (q ++ ⟨#[32]⟩ ++ strI reason) = true := by rw [cutK, hd, hc]
  have hr : (UInt8.ofNat (48 + reason.toNat)).toNat = 48 + reason.toNat := by simp; omega
  have hl : leadC (strI reason) = 48 + reason.toNat := by rw [hs]; simpa [leadC] using hr
  have hz : (strI reason).size = 1 := by rw [hs]; rfl
  have eB : fromB (q ++ ⟨#[32]⟩ ++ strI reason) = true := by
    rw [fromB, eK, eN, eR, hq, hl, hz]
    simp
    omega
  rw [fromN, fromI, eB, if_pos rfl, if_pos rfl, eN, eR, hl]
  exact ⟨rfl, by omega⟩
theorem keyB_marks : keyB kDeaths.data.toList = true ∧ keyB kDied.data.toList = true := by decide
theorem strI_small (n : Int) (h0 : 0 ≤ n) (h1 : n ≤ 1099511627776) : (strI n).size ≤ 13 := by
  obtain ⟨u, rfl⟩ := Int.eq_ofNat_of_zero_le h0
  have hl := dec_len 12 u (by have : (10 : Nat) ^ 13 = 10000000000000 := by decide
                              show u < 10 ^ 13; omega)
  rw [← Lib.itoa_nonneg, ← strI_list, size_data] at hl
  exact hl
theorem outL_valid {l : List Pr} (h : AscS l) (h2 : ∀ p ∈ l, keyB p.1.data.toList = true ∧ p.2.size ≤ 160) (q : ByteArray) (reason : Int) (hq : q.size ≤ 16) (h0 : 1 ≤ reason) (h4 : reason ≤ 4) : propsE (outL q l reason) = 0 := by
  refine propsE_of (outL_strict h q reason) (fun p hp => ?_) (outL_len q l reason)
  have hm := (outL_perm q l reason).mem_iff.1 hp
  rcases List.mem_append.1 hm with hm | hm
  · exact h2 p ((kept_sub l).mem hm)
  · rw [marksP_eq] at hm
    simp only [List.mem_cons, List.not_mem_nil, or_false] at hm
    rcases hm with rfl | rfl
    · have hb := nextD_bd l
      have := strI_small _ hb.1 hb.2
      exact ⟨keyB_marks.1, by show (strI (nextD l)).size ≤ 160; omega⟩
    · have := strI_small reason (by omega) (by omega)
      refine ⟨keyB_marks.2, ?_⟩
      show (q ++ ⟨#[32]⟩ ++ strI reason).size ≤ 160
      have e : (⟨#[32]⟩ : ByteArray).size = 1 := rfl
      rw [ByteArray.size_append, ByteArray.size_append, e]
      omega
end Go.Proofs.YthilbmdpbmkakaaDoor
