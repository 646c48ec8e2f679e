/- Part of the proof: locks: ordered, alike, covered; which may be one by one: the program's and the document's. -/
import Derived.Test.YtbhjbehdafcnoaaCmpK
import Derived.Test.YtbhjbehdafcnoaaSirA
set_option linter.unusedSimpArgs false
set_option linter.unusedVariables false
set_option maxRecDepth 100000
namespace Go.Pvm.S
open Go.Pvm Go.Proofs
structure Lk where
  t : Int
  k : Int
  p : Int
  q : Wd
  deriving DecidableEq
def Lk.e (x : Lk) : List PV := [.int .i64 x.t, .int .i64 x.k, .float .f64 x.q.toNat, .int .i64 x.p]
theorem Lk.e_ok (x : Lk) : x.e.length = 4 ∧ x.e.all PV.plain = true ∧ PV.own.owns x.e = true := ⟨rfl, rfl, rfl⟩
theorem Lk.ext' {a b : Lk} : a = b ↔ a.t = b.t ∧ a.k = b.k ∧ a.p = b.p ∧ a.q = b.q := by
  obtain ⟨_, _, _, _⟩ := a
  obtain ⟨_, _, _, _⟩ := b
  simp
def ordL (a b : Lk) : Int := orI [cmpI a.t b.t, cmpI a.k b.k, cmpI a.p b.p, cmpN (rankV a.q) (rankV b.q)]
theorem spOrdL (a b : Lk) : pcall Cω 31 [.agg a.e, .agg b.e] = some (.int .i64 (ordL a b)) := by
  have ev := eqK31 Cω Lω a.t a.k a.q.toNat a.p b.t b.k b.q.toNat b.p
  have h := spOr [cmpI a.t b.t, cmpI a.k b.k, cmpI a.p b.p, cmpN (rankV a.q) (rankV b.q)] (by show (4 : Nat) < _; decide)
  simp only [List.map, ie] at h
  simp only [spCmp, spCompare, asInt_int, asBool_bool, asStr_str, asSl_psl, asSl_nil, asAgg_agg, asTup_tup, asCons_cons, asNil_nil, asFlt_flt, asRef_ref, asWhole_whole, asView_view, asWv_whole, asWv_view, asFn_fn, asPref_pref, asOCons_cons, asONil_nil, asBox_box, asMade_made, asGone_dead, asGone_made, bind_some', onEx_exit, onEx_ret, h] at ev
  exact pc ev rfl
theorem cmpN_cases (a b : Nat) : (a < b ∧ cmpN a b = -1) ∨ (a = b ∧ cmpN a b = 0) ∨ (b < a ∧ cmpN a b = 1) := by
  unfold cmpN
  rcases Nat.lt_trichotomy a b with h | h | h
  · exact .inl ⟨h, by rw [if_pos h]⟩
  · exact .inr (.inl ⟨h, by rw [if_neg (by omega), if_neg (by omega)]⟩)
  · exact .inr (.inr ⟨h, by rw [if_neg (by omega), if_pos h]⟩)
theorem ordL_eq' (a b : Lk) : ordL a b = if cmpI a.t b.t = 0 then (if cmpI a.k b.k = 0 then (if cmpI a.p b.p = 0 then cmpN (rankV a.q) (rankV b.q) else cmpI a.p b.p) else cmpI a.k b.k) else cmpI a.t b.t := by
  unfold ordL
  rw [orI_cons, orI_cons, orI_cons, orI_cons, orI_nil]
  have : (if cmpN (rankV a.q) (rankV b.q) = 0 then 0 else cmpN (rankV a.q) (rankV b.q)) = cmpN (rankV a.q) (rankV b.q) := by
    split
    · rename_i h; exact h.symm
    · rfl
  rw [this]
theorem ordL_lt {a b : Lk} : ordL a b < 0 ↔ a.t < b.t ∨ (a.t = b.t ∧ (a.k < b.k ∨ (a.k = b.k ∧ (a.p < b.p ∨ (a.p = b.p ∧ rankV a.q < rankV b.q))))) := by
  rw [ordL_eq']
  rcases cmpI_cases a.t b.t with ⟨h1, e1⟩ | ⟨h1, e1⟩ | ⟨h1, e1⟩
  · rw [e1, if_neg (by decide)]; constructor <;> intro q <;> first | omega | decide
  · rw [e1, if_pos rfl]
    rcases cmpI_cases a.k b.k with ⟨h2, e2⟩ | ⟨h2, e2⟩ | ⟨h2, e2⟩
    · rw [e2, if_neg (by decide)]; constructor <;> intro q <;> first | omega | decide
    · rw [e2, if_pos rfl]
      rcases cmpI_cases a.p b.p with ⟨h3, e3⟩ | ⟨h3, e3⟩ | ⟨h3, e3⟩
      · rw [e3, if_neg (by decide)]; constructor <;> intro q <;> first | omega | decide
      · rw [e3, if_pos rfl]
        rcases cmpN_cases (rankV a.q) (rankV b.q) with ⟨h4, e4⟩ | ⟨h4, e4⟩ | ⟨h4, e4⟩ <;> rw [e4] <;> constructor <;> intro q <;> first | omega | decide
      · rw [e3, if_neg (by decide)]; constructor <;> intro q <;> first | omega | decide
    · rw [e2, if_neg (by decide)]; constructor <;> intro q <;> first | omega | decide
  · rw [e1, if_neg (by decide)]; constructor <;> intro q <;> first | omega | decide
theorem ordL_tr (a b c : Lk) (h1 : ordL a b < 0) (h2 : ordL b c < 0) : ordL a c < 0 := by
  rw [ordL_lt] at *
  omega
theorem ordL_tot (a b : Lk) : ordL a b < 0 ∨ ordL b a < 0 ∨ (a.t = b.t ∧ a.k = b.k ∧ a.p = b.p ∧ rankV a.q = rankV b.q) := by
  rw [ordL_lt, ordL_lt]
  omega
theorem spLessL (a b : Lk) : pcall Cω 34 [.agg a.e, .agg b.e] = some (.bool (decide (ordL a b < 0))) := by
  have ev := eqK34 Cω Lω a.t a.k a.q.toNat a.p b.t b.k b.q.toNat b.p
  simp only [spRLess, asInt_int, asBool_bool, asStr_str, asSl_psl, asSl_nil, asAgg_agg, asTup_tup, asCons_cons, asNil_nil, asFlt_flt, asRef_ref, asWhole_whole, asView_view, asWv_whole, asWv_view, asFn_fn, asPref_pref, asOCons_cons, asONil_nil, asBox_box, asMade_made, asGone_dead, asGone_made, bind_some', onEx_exit, onEx_ret] at ev
  have hd : decide (ordL a b < 0) = if (a.t != b.t) = true then decide (a.t < b.t) else if (a.k != b.k) = true then decide (a.k < b.k) else if (a.p != b.p) = true then decide (a.p < b.p) else decide (rankV a.q < rankV b.q) := by
    have h := ordL_lt (a := a) (b := b)
    by_cases h1 : a.t = b.t
    · rw [if_neg (by rw [bne_iff_ne]; exact fun e => e h1)]
      by_cases h2 : a.k = b.k
      · rw [if_neg (by rw [bne_iff_ne]; exact fun e => e h2)]
        by_cases h3 : a.p = b.p
        · rw [if_neg (by rw [bne_iff_ne]; exact fun e => e h3), decide_eq_decide, h]; omega
        · rw [if_pos (by rw [bne_iff_ne]; exact h3), decide_eq_decide, h]; omega
      · rw [if_pos (by rw [bne_iff_ne]; exact h2), decide_eq_decide, h]; omega
    · rw [if_pos (by rw [bne_iff_ne]; exact h1), decide_eq_decide, h]; omega
  rw [hd]
  refine pc (v := .bool _) (A := []) (ev.trans ?_) rfl
  cases (a.t != b.t) <;> cases (a.k != b.k) <;> cases (a.p != b.p) <;> rfl
theorem natEq (a b : Wd) : ((((a.toNat : Nat) : Int)) == ((b.toNat : Nat) : Int)) = (a == b) := by
  by_cases h : a = b
  · subst h; simp
  · have : ¬ a.toNat = b.toNat := fun e => h (BitVec.eq_of_toNat_eq e)
    rw [beq_eq_false_iff_ne.2 h, beq_eq_false_iff_ne]
    omega
def sameL (a b : Lk) : Bool := a.t == b.t && (a.k == b.k && (a.p == b.p && a.q == b.q))
theorem sameL_eq (a b : Lk) : sameL a b = decide (a = b) := by
  unfold sameL
  by_cases h : a = b
  · subst h; simp
  · rw [decide_eq_false h]
    rw [Lk.ext'] at h
    cases h1 : (a.t == b.t) <;> cases h2 : (a.k == b.k) <;> cases h3 : (a.p == b.p) <;> cases h4 : (a.q == b.q) <;> try rfl
    rw [beq_iff_eq] at h1 h2 h3 h4
    exact absurd ⟨h1, h2, h3, h4⟩ h
theorem spNSame (a b : Wd) : pcall Cω 57 [.float .f64 a.toNat, .float .f64 b.toNat] = some (.bool (a == b)) := by
  have ev := eqK57 Cω Lω a.toNat b.toNat
  rw [natEq] at ev
  exact pc ev rfl
theorem spRSame (a b : Wd) : pcall Cω 43 [.float .f64 a.toNat, .float .f64 b.toNat] = some (.bool (a == b)) := by
  have ev := eqK43 Cω Lω a.toNat b.toNat
  rw [natEq] at ev
  exact pc ev rfl
theorem spSameL (a b : Lk) : pcall Cω 49 [.agg a.e, .agg b.e] = some (.bool (decide (a = b))) := by
  have ev := eqK49 Cω Lω a.t a.k a.q.toNat a.p b.t b.k b.q.toNat b.p
  simp only [spNSame, asInt_int, asBool_bool, asStr_str, asSl_psl, asSl_nil, asAgg_agg, asTup_tup, asCons_cons, asNil_nil, asFlt_flt, asRef_ref, asWhole_whole, asView_view, asWv_whole, asWv_view, asFn_fn, asPref_pref, asOCons_cons, asONil_nil, asBox_box, asMade_made, asGone_dead, asGone_made, bind_some', onEx_exit, onEx_ret] at ev
  rw [← sameL_eq]
  unfold sameL
  refine pc (v := .bool _) (A := []) (ev.trans ?_) rfl
  cases (a.t == b.t) <;> cases (a.k == b.k) <;> cases (a.p == b.p) <;> rfl
/-- Does the one cover the other? The program's. -/
def covL (a b : Lk) : Bool := if (a.t != b.t) = true then false else if (a.k == 3) = true then true else if (a.k == 2) = true then (b.k == 2 && b.p == a.p) || (b.k == 1 && ((pageV b.q : Nat) : Int) == a.p) else decide (a = b)
theorem spCovers (a b : Lk) : pcall Cω 32 [.agg a.e, .agg b.e] = some (.bool (covL a b)) := by
  have ev := eqK32 Cω Lω a.t a.k a.q.toNat a.p b.t b.k b.q.toNat b.p
  have hs := spSameL a b
  simp only [Lk.e] at hs
  simp only [hs, spPage, asInt_int, asBool_bool, asStr_str, asSl_psl, asSl_nil, asAgg_agg, asTup_tup, asCons_cons, asNil_nil, asFlt_flt, asRef_ref, asWhole_whole, asView_view, asWv_whole, asWv_view, asFn_fn, asPref_pref, asOCons_cons, asONil_nil, asBox_box, asMade_made, asGone_dead, asGone_made, bind_some', onEx_exit, onEx_ret] at ev
  unfold covL
  refine pc (v := .bool _) (A := []) (ev.trans ?_) rfl
  cases (a.t != b.t) <;> cases (a.k == 3) <;> cases (a.k == 2) <;> cases (b.k == 2) <;> cases (b.p == a.p) <;> cases (b.k == 1) <;> rfl
/-- The document's. -/
def rcovL (a b : Lk) : Bool := if (a.t != b.t) = true then false else if (a.k == 1) = true then b.k == 1 && (b.p == a.p && a.q == b.q) else if (a.k == 2 && b.k == 1) = true then ((pageV b.q : Nat) : Int) == a.p else a.k == 3 || (a.k == 2 && (b.k == 2 && a.p == b.p))
theorem spRCovers (a b : Lk) : pcall Cω 35 [.agg a.e, .agg b.e] = some (.bool (rcovL a b)) := by
  have ev := eqK35 Cω Lω a.t a.k a.q.toNat a.p b.t b.k b.q.toNat b.p
  simp only [spRSame, spRPage, asInt_int, asBool_bool, asStr_str, asSl_psl, asSl_nil, asAgg_agg, asTup_tup, asCons_cons, asNil_nil, asFlt_flt, asRef_ref, asWhole_whole, asView_view, asWv_whole, asWv_view, asFn_fn, asPref_pref, asOCons_cons, asONil_nil, asBox_box, asMade_made, asGone_dead, asGone_made, bind_some', onEx_exit, onEx_ret] at ev
  unfold rcovL
  refine pc (v := .bool _) (A := []) (ev.trans ?_) rfl
  cases (a.t != b.t) <;> cases (a.k == 1) <;> cases (a.k == 3) <;> cases (a.k == 2) <;> cases (b.k == 2) <;> cases (b.p == a.p) <;> cases (b.k == 1) <;> rfl
theorem cov_eq {a b : Lk} (ha : a.k = 1 ∨ a.k = 2 ∨ a.k = 3) : rcovL a b = covL a b := by
  unfold rcovL covL
  cases ht : (a.t != b.t)
  · rw [bne_eq_false_iff_eq] at ht
    rcases ha with h | h | h
    · rw [h]
      have e1 : ((1 : Int) == 1) = true := rfl
      have e2 : ((1 : Int) == 3) = false := rfl
      have e3 : ((1 : Int) == 2) = false := rfl
      rw [e1, e2, e3]
      simp only [Bool.false_eq_true, if_false, if_true]
      rw [← sameL_eq]
      unfold sameL
      rw [ht, h, beq_self_eq_true, Bool.true_and]
      by_cases hb : b.k = 1
      · rw [hb]
        by_cases hp : a.p = b.p
        · rw [hp]
        · have h1 : (a.p == b.p) = false := beq_eq_false_iff_ne.2 hp
          have h2 : (b.p == a.p) = false := beq_eq_false_iff_ne.2 fun e => hp e.symm
          rw [h1, h2]
      · have h1 : (b.k == 1) = false := beq_eq_false_iff_ne.2 hb
        have h2 : ((1 : Int) == b.k) = false := beq_eq_false_iff_ne.2 fun e => hb e.symm
        rw [h1, h2]; simp
    · rw [h]
      have e1 : ((2 : Int) == 1) = false := rfl
      have e2 : ((2 : Int) == 3) = false := rfl
      have e3 : ((2 : Int) == 2) = true := rfl
      rw [e1, e2, e3]
      simp only [Bool.false_eq_true, if_false, if_true, Bool.true_and, Bool.false_or]
      by_cases hb : b.k = 1
      · rw [hb]
        have e4 : ((1 : Int) == 1) = true := rfl
        have e5 : ((1 : Int) == 2) = false := rfl
        rw [e4, e5]; simp
      · have h1 : (b.k == 1) = false := beq_eq_false_iff_ne.2 hb
        rw [h1]
        simp only [Bool.false_eq_true, if_false, Bool.false_and, Bool.or_false]
        by_cases hp : a.p = b.p
        · rw [hp]
        · have h1 : (a.p == b.p) = false := beq_eq_false_iff_ne.2 hp
          have h2 : (b.p == a.p) = false := beq_eq_false_iff_ne.2 fun e => hp e.symm
          rw [h1, h2]
    · rw [h]
      have e1 : ((3 : Int) == 1) = false := rfl
      have e2 : ((3 : Int) == 3) = true := rfl
      have e3 : ((3 : Int) == 2) = false := rfl
      rw [e1, e2, e3]
      simp
  · rfl
/-- May it be? -/
def okL (x : Lk) : Bool := decide (1 ≤ x.t) && (decide (x.t ≤ 2147483647) && (if (x.k == 1) = true then x.p == 0 && x.q == keyV x.q else if (x.k == 2) = true then decide (x.p ≥ 0) && (decide (x.p < 8) && x.q == 0) else if (x.k == 3) = true then x.p == 0 && x.q == 0 else false))
theorem spLock (x : Lk) : pcall Cω 30 [.agg x.e] = some (.bool (okL x)) := by
  have ev := eqK30 Cω Lω x.t x.k x.q.toNat x.p
  have h0 : pcall Cω 57 [.float .f64 x.q.toNat, .float .f64 0] = some (.bool (x.q == 0)) := spNSame x.q 0
  simp only [spKey, spNSame, h0, asInt_int, asBool_bool, asStr_str, asSl_psl, asSl_nil, asAgg_agg, asTup_tup, asCons_cons, asNil_nil, asFlt_flt, asRef_ref, asWhole_whole, asView_view, asWv_whole, asWv_view, asFn_fn, asPref_pref, asOCons_cons, asONil_nil, asBox_box, asMade_made, asGone_dead, asGone_made, bind_some', onEx_exit, onEx_ret] at ev
  unfold okL
  refine pc (v := .bool _) (A := []) (ev.trans ?_) rfl
  by_cases h1 : x.t < 1
  · rw [if_pos (decide_eq_true h1), decide_eq_false (by omega)]; rfl
  · rw [if_neg (by rw [decide_eq_true_eq]; exact h1), decide_eq_true (show 1 ≤ x.t by omega), Bool.true_and]
    by_cases h2 : x.t > 2147483647
    · rw [if_pos (decide_eq_true h2), decide_eq_false (by omega)]; rfl
    · rw [if_neg (by rw [decide_eq_true_eq]; exact h2), decide_eq_true (show x.t ≤ 2147483647 by omega), Bool.true_and]
      cases (x.k == 1) <;> cases (x.k == 2) <;> cases (x.k == 3) <;> cases (x.p == 0) <;> cases decide (x.p ≥ 0) <;> cases decide (x.p < 8) <;> rfl
theorem spRmay (x : Lk) : pcall Cω 33 [.agg x.e] = some (.bool (okL x)) := by
  have ev := eqK33 Cω Lω x.t x.k x.q.toNat x.p
  have h0 : pcall Cω 43 [.float .f64 x.q.toNat, .float .f64 0] = some (.bool (x.q == 0)) := spRSame x.q 0
  simp only [spRKey, natEq, h0, asInt_int, asBool_bool, asStr_str, asSl_psl, asSl_nil, asAgg_agg, asTup_tup, asCons_cons, asNil_nil, asFlt_flt, asRef_ref, asWhole_whole, asView_view, asWv_whole, asWv_view, asFn_fn, asPref_pref, asOCons_cons, asONil_nil, asBox_box, asMade_made, asGone_dead, asGone_made, bind_some', onEx_exit, onEx_ret] at ev
  unfold okL
  refine pc (v := .bool _) (A := []) (ev.trans ?_) rfl
  by_cases h1 : x.t < 1
  · rw [if_pos (decide_eq_true h1), decide_eq_false (by omega)]; rfl
  · rw [if_neg (by rw [decide_eq_true_eq]; exact h1), decide_eq_true (show 1 ≤ x.t by omega), Bool.true_and]
    by_cases h2 : x.t ≥ 2147483648
    · rw [if_pos (decide_eq_true h2), decide_eq_false (by omega)]; rfl
    · rw [if_neg (by rw [decide_eq_true_eq]; exact h2), decide_eq_true (show x.t ≤ 2147483647 by omega), Bool.true_and]
      have h7 : decide (x.p ≤ 7) = decide (x.p < 8) := by rw [decide_eq_decide]; omega
      rw [h7]
      by_cases k1 : x.k = 1
      · rw [k1]
        have e1 : ((1 : Int) == 1) = true := rfl
        rw [e1]
        cases (x.p == 0) <;> rfl
      · have e1 : (x.k == 1) = false := beq_eq_false_iff_ne.2 k1
        rw [e1]
        by_cases k2 : x.k = 2
        · rw [k2]
          have e2 : ((2 : Int) == 2) = true := rfl
          have e3 : ((2 : Int) == 3) = false := rfl
          rw [e2, e3]
          cases (x.q == 0) <;> cases decide (x.p ≥ 0) <;> cases decide (x.p < 8) <;> rfl
        · have e2 : (x.k == 2) = false := beq_eq_false_iff_ne.2 k2
          rw [e2]
          cases (x.q == 0) <;> cases (x.k == 3) <;> cases (x.p == 0) <;> rfl
end Go.Pvm.S
