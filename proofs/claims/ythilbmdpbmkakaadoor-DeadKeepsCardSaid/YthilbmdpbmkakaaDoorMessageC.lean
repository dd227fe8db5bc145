/- Contracts: message.Get and Expired; the reference's Expired, SameProps and Same. -/
import Derived.Test.YthilbmdpbmkakaaDoorMessageB
import Derived.Laws.StructEq
set_option linter.unusedVariables false
set_option linter.unusedSimpArgs false
namespace Go.Proofs.YthilbmdpbmkakaaDoor
open Go Go.RowKit

/-- P5.2: the value of the first property with a key. -/
def getP : List Pr → ByteArray → Option ByteArray
  | [], _ => none
  | p :: l, k => if (p.1.toList == k.toList) = true then some p.2 else getP l k
def getV (l : List Pr) (k : ByteArray) : ByteArray := (getP l k).getD ByteArray.empty
def getH (l : List Pr) (k : ByteArray) : Bool := (getP l k).isSome
theorem get_step (l : List Pr) (j : Nat) (hj : j < l.length) (k : ByteArray) : getP (l.drop j) k = if (l[j].1.toList == k.toList) = true then some l[j].2 else getP (l.drop (j + 1)) k := by
  rw [List.drop_eq_getElem_cons hj]; rfl
theorem ret_str_bool {a b : ByteArray} {c d : Bool} (h : a = b) (h' : c = d) : Ending.returned (.tuple #[.string a, .bool c]) = .returned (.tuple #[.string b, .bool d]) := by rw [h, h']

set_option maxRecDepth 100000 in
set_option maxHeartbeats 800000 in
theorem message_Get (A : Option Addr) (c : Nat) (l : List Pr) (k : ByteArray) (w : World) (hl : l.length ≤ maxLen) (hr : Rd encP 2 w A l) :
    Calls Tryd.prog 30 #[.slice A l.length c, .string k] w fun e w' => e = .returned (.tuple #[.string (getV l k), .bool (getH l k)]) ∧ Ext w w' := by
  unfold maxLen at hl
  have HRd := Lib.hid hr; clear hr
  go_enter Tryd.func30, Tryd.ntmps30
  go_wp2
  go_loopw [10] (fun i wr => ∃ j : Nat, j ≤ l.length ∧ i = .int .i64 j ∧ Ext w wr ∧ getP (l.drop 0) k = getP (l.drop j) k) (fun i _ => l.length - (intOf i).toNat)
  case atStart => exact ⟨0, by omega, rfl, Ext.refl _, rfl⟩
  case round =>
    obtain ⟨j, hj, rfl, hE, hinv⟩ := hrel
    have HE := Lib.hid hE; clear hE
    have HI := Lib.hid hinv; clear hinv
    by_cases hlt : j < l.length
    · have HS := Lib.hid (get_step l j hlt k)
      obtain ⟨b, off, rfl, hb, c1, c2⟩ := (Rd.ext HRd.out HE.out).pr hlt
      cases hk : (l[j].1.toList == k.toList) with
      | true =>
        have HF : Hid (getP l k = some l[j].2) := Lib.hid (by have := HI.out; rw [List.drop_zero] at this; rw [this, HS.out, if_pos hk])
        go_wp2
        go_ret2
        exact ⟨ret_str_bool (by rw [getV, HF.out]; rfl) (by rw [getH, HF.out]; rfl), HE.out.alloc _⟩
      | false =>
        go_wp2
        go_roundw
        case rel => exact ⟨j + 1, by omega, by go_num, HE.out.alloc _, by rw [HI.out, HS.out, if_neg (by rw [hk]; decide)]⟩
        case measure => simp [intOf]; omega
    · have HF : Hid (getP l k = none) := Lib.hid (by have := HI.out; rw [List.drop_zero] at this; rw [this, List.drop_of_length_le (by omega)]; rfl)
      go_wp2
      go_ret2
      exact ⟨ret_str_bool (by rw [getV, HF.out]; rfl) (by rw [getH, HF.out]; rfl), HE.out⟩

def expiredB (ex now : Int) : Bool := !(ex == 0) && decide (ex ≤ now)
set_option maxHeartbeats 800000 in
theorem message_Expired (t p : ByteArray) (lv : Int) (rt : Bool) (pr ex : Int) (fr : ByteArray) (sq : Int) (A : Option Addr) (n c : Nat) (now : Int) (w : World) :
    Calls Tryd.prog 28 #[.agg #[.string t, .string p, .int .i64 lv, .bool rt, .int .i64 pr, .int .i64 ex, .string fr, .int .i64 sq, .slice A n c], .int .i64 now] w fun e w' => e = .returned (.bool (expiredB ex now)) ∧ Ext w w' := by
  have HE : Hid (expiredB ex now = (!(ex == 0) && decide (ex ≤ now))) := Lib.hid rfl
  cases h0 : (ex == 0) with
  | true =>
    have h1 : (ex != 0) = false := by rw [bne, h0]; rfl
    go_enter Tryd.func28, Tryd.ntmps28
    go_wp2
    go_ret
    exact ⟨ret_bool (by rw [HE.out, h0]; rfl), (Ext.refl w).alloc _⟩
  | false =>
    have h1 : (ex != 0) = true := by rw [bne, h0]; rfl
    go_enter Tryd.func28, Tryd.ntmps28
    go_wp2
    go_ret
    exact ⟨ret_bool (by rw [HE.out, h0]; rfl), (Ext.refl w).alloc _⟩
set_option maxHeartbeats 800000 in
theorem ref_Expired (t p : ByteArray) (lv : Int) (rt : Bool) (pr ex : Int) (fr : ByteArray) (sq : Int) (A : Option Addr) (n c : Nat) (now : Int) (w : World) :
    Calls Tryd.prog 45 #[.agg #[.string t, .string p, .int .i64 lv, .bool rt, .int .i64 pr, .int .i64 ex, .string fr, .int .i64 sq, .slice A n c], .int .i64 now] w fun e w' => e = .returned (.bool (expiredB ex now)) ∧ Ext w w' := by
  have HE : Hid (expiredB ex now = (!(ex == 0) && decide (ex ≤ now))) := Lib.hid rfl
  cases h0 : (ex == 0) with
  | true =>
    have h1 : (ex != 0) = false := by rw [bne, h0]; rfl
    go_enter Tryd.func45, Tryd.ntmps45
    go_wp2
    go_ret
    exact ⟨ret_bool (by rw [HE.out, h0]; rfl), (Ext.refl w).alloc _⟩
  | false =>
    have h1 : (ex != 0) = true := by rw [bne, h0]; rfl
    go_enter Tryd.func45, Tryd.ntmps45
    go_wp2
    go_ret
    exact ⟨ret_bool (by rw [HE.out, h0]; rfl), (Ext.refl w).alloc _⟩

/-! ### equality of properties -/
theorem eqIn_Prop (a b x y : ByteArray) (w : World) : (Op.equalIn 10000 35 (.agg #[.string a, .string b]) (.agg #[.string x, .string y])).run Tryd.prog w = .ok (a.toList == x.toList && b.toList == y.toList) w := by
  have hS : Tryd.prog.underlying 35 = some (.struct (Tryd.prog.fieldsOf 35)) := by kernel_rfl
  have hp : Tryd.prog.stoodInHeld 35 = false := by kernel_rfl
  rw [show (10000 : Nat) = 9999 + 1 from rfl, run_equalIn_agg w 9999 35 _ _ hS hp]
  simp only [Program.fieldsOf, Tryd.underlying35]
  go_simp
  by_cases h1 : a.toList = x.toList <;> by_cases h2 : b.toList = y.toList <;> simp [h1, h2]
theorem eql_Prop (a b x y : ByteArray) (w : World) : (binOp .eql 35 (.agg #[.string a, .string b]) (.agg #[.string x, .string y])).run Tryd.prog w = .ok (.bool (a.toList == x.toList && b.toList == y.toList)) w := by
  rw [run_eql_struct, eqIn_Prop]; rfl
theorem neq_Prop (a b x y : ByteArray) (w : World) : (binOp .neq 35 (.agg #[.string a, .string b]) (.agg #[.string x, .string y])).run Tryd.prog w = .ok (.bool !(a.toList == x.toList && b.toList == y.toList)) w := by
  rw [run_neq_struct, eqIn_Prop]; rfl

def samePr (p q : Pr) : Bool := p.1.toList == q.1.toList && p.2.toList == q.2.toList
def sameL : List Pr → List Pr → Bool
  | [], [] => true
  | p :: l, q :: m => samePr p q && sameL l m
  | _, _ => false
theorem samePr_iff (p q : Pr) : samePr p q = true ↔ p = q := by
  obtain ⟨a, b⟩ := p
  obtain ⟨x, y⟩ := q
  simp only [samePr, toList_beq, Bool.and_eq_true, decide_eq_true_eq, Prod.mk.injEq]
theorem sameL_iff : ∀ (l m : List Pr), sameL l m = true ↔ l = m
  | [], [] => by simp [sameL]
  | [], _ :: _ => by simp [sameL]
  | _ :: _, [] => by simp [sameL]
  | p :: l, q :: m => by simp [sameL, samePr_iff, sameL_iff l m]
theorem sameL_ne {l m : List Pr} (h : l.length ≠ m.length) : sameL l m = false := by
  cases hs : sameL l m with
  | false => rfl
  | true => exact absurd (congrArg List.length ((sameL_iff l m).1 hs)) h
theorem sameL_step (l m : List Pr) (j : Nat) (hj : j < l.length) (hm : j < m.length) : sameL (l.drop j) (m.drop j) = (samePr l[j] m[j] && sameL (l.drop (j + 1)) (m.drop (j + 1))) := by
  rw [List.drop_eq_getElem_cons hj, List.drop_eq_getElem_cons hm]; rfl

set_option maxRecDepth 100000 in
set_option maxHeartbeats 1600000 in
theorem ref_SameProps (A B : Option Addr) (c d : Nat) (l m : List Pr) (w : World) (hl : l.length ≤ maxLen) (hm : m.length ≤ maxLen) (hr : Rd encP 2 w A l) (hr2 : Rd encP 2 w B m) :
    Calls Tryd.prog 40 #[.slice A l.length c, .slice B m.length d] w fun e w' => e = .returned (.bool (sameL l m)) ∧ Ext w w' := by
  unfold maxLen at hl hm
  have HR1 := Lib.hid hr; clear hr
  have HR2 := Lib.hid hr2; clear hr2
  by_cases hlen : l.length = m.length
  · have HL := Lib.hid hlen
    have hb : ((l.length : Int) != (m.length : Int)) = false := by rw [bne_eq_false_iff_eq, hlen]
    clear hlen
    go_enter Tryd.func40, Tryd.ntmps40
    go_wp2
    go_loopw [5] (fun i wr => ∃ j : Nat, j ≤ l.length ∧ i = .int .i64 j ∧ Ext w wr ∧ sameL (l.drop 0) (m.drop 0) = sameL (l.drop j) (m.drop j)) (fun i _ => l.length - (intOf i).toNat)
    case atStart => exact ⟨0, by omega, rfl, Ext.refl _, rfl⟩
    case round =>
      obtain ⟨j, hj, rfl, hE, hinv⟩ := hrel
      have HE := Lib.hid hE; clear hE
      have HI := Lib.hid hinv; clear hinv
      by_cases hlt : j < l.length
      · have hlm : j < m.length := by rw [← HL.out]; exact hlt
        have HS := Lib.hid (sameL_step l m j hlt hlm)
        obtain ⟨b, off, rfl, hb1, c1, c2⟩ := (Rd.ext HR1.out HE.out).pr hlt
        obtain ⟨b', off', rfl, hb2, c3, c4⟩ := (Rd.ext HR2.out HE.out).pr hlm
        have heq := eqIn_Prop
        cases hk : samePr l[j] m[j] with
        | true =>
          have hk2 : (l[j].1.toList == m[j].1.toList && l[j].2.toList == m[j].2.toList) = true := hk
          have HK := Lib.hid hk; clear hk
          go_wp2
          go_quiet (fail)
          go_wp2
          go_roundw
          case rel => exact ⟨j + 1, by omega, by go_num, HE.out.drewN _, by rw [HI.out, HS.out, HK.out]; rfl⟩
          case measure => simp [intOf]; omega
        | false =>
          have hk2 : (l[j].1.toList == m[j].1.toList && l[j].2.toList == m[j].2.toList) = false := hk
          have HK := Lib.hid hk; clear hk
          go_wp2
          go_quiet (fail)
          go_wp2
          go_ret
          exact ⟨ret_bool (by have := HI.out; rw [List.drop_zero, List.drop_zero] at this; rw [this, HS.out, HK.out]; rfl), HE.out.drewN _⟩
      · go_wp2
        go_ret
        exact ⟨ret_bool (by have := HI.out; rw [List.drop_zero, List.drop_zero] at this; rw [this, List.drop_of_length_le (by omega), List.drop_of_length_le (by rw [← HL.out]; omega)]; rfl), HE.out⟩
  · have HF := Lib.hid (sameL_ne hlen)
    have hb : ((l.length : Int) != (m.length : Int)) = true := by rw [bne_iff_ne]; omega
    clear hlen
    go_enter Tryd.func40, Tryd.ntmps40
    go_wp2
    go_ret
    exact ⟨ret_bool HF.out.symm, Ext.refl _⟩

/-- P5.5: are messages equal? -/
def sameM (t p : ByteArray) (lv : Int) (rt : Bool) (pr ex : Int) (fr : ByteArray) (sq : Int) (l : List Pr) (t' p' : ByteArray) (lv' : Int) (rt' : Bool) (pr' ex' : Int) (fr' : ByteArray) (sq' : Int) (l' : List Pr) : Bool :=
  t.toList == t'.toList && (p.toList == p'.toList && (lv == lv' && (rt == rt' && (pr == pr' && (ex == ex' && (fr.toList == fr'.toList && (sq == sq' && sameL l l')))))))
set_option maxRecDepth 100000 in
set_option maxHeartbeats 3200000 in
theorem ref_Same (t p : ByteArray) (lv : Int) (rt : Bool) (pr ex : Int) (fr : ByteArray) (sq : Int) (A : Option Addr) (c : Nat) (l : List Pr) (t' p' : ByteArray) (lv' : Int) (rt' : Bool) (pr' ex' : Int) (fr' : ByteArray) (sq' : Int) (A' : Option Addr) (c' : Nat) (l' : List Pr) (w : World)
    (hl : l.length ≤ maxLen) (hm : l'.length ≤ maxLen) (hr : Rd encP 2 w A l) (hr2 : Rd encP 2 w A' l') :
    Calls Tryd.prog 23 #[.agg #[.string t, .string p, .int .i64 lv, .bool rt, .int .i64 pr, .int .i64 ex, .string fr, .int .i64 sq, .slice A l.length c], .agg #[.string t', .string p', .int .i64 lv', .bool rt', .int .i64 pr', .int .i64 ex', .string fr', .int .i64 sq', .slice A' l'.length c']] w fun e w' => e = .returned (.bool (sameM t p lv rt pr ex fr sq l t' p' lv' rt' pr' ex' fr' sq' l')) ∧ Ext w w' := by
  have HR1 := Lib.hid hr; clear hr
  have HR2 := Lib.hid hr2; clear hr2
  go_enter Tryd.func23, Tryd.ntmps23
  go_wp2_with (first
    | (go_at_call 40; refine (ref_SameProps _ _ _ _ _ _ _ hl hm (HR1.out.ext (((Ext.refl w).alloc _).alloc _)) (HR2.out.ext (((Ext.refl w).alloc _).alloc _))).mono ?_; rintro e w1 ⟨rfl, hE⟩; have HX := Lib.hid (Ext.trans (((Ext.refl w).alloc _).alloc _) hE); clear hE))
  all_goals (go_ret; refine ⟨ret_bool ?_, ?_⟩)
  all_goals first
    | exact HX.out
    | exact ((Ext.refl w).alloc _).alloc _
    | (unfold sameM; simp [*]; done)
end Go.Proofs.YthilbmdpbmkakaaDoor
