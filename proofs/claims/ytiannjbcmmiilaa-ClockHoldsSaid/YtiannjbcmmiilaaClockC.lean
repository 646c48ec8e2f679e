/- Part of the proof: clocks: whether one may be; a frame that is found; a page that is used. -/
import Derived.Test.YtiannjbcmmiilaaClockB
set_option linter.unusedSimpArgs false
set_option linter.unusedVariables false
set_option maxRecDepth 100000
namespace Go.Pvm.S
open Go.Pvm Go.Proofs
theorem eqSpot (s t : Sp) : binv Try.prog .eql 30 (.agg s.e) (.agg t.e) = some (.bool (decide (s = t))) := by
  have h : binv Try.prog .eql 30 (.agg s.e) (.agg t.e) = Option.map PV.bool (if (s.p == t.p) = true then (if (s.u == t.u) = true then (if (s.n == t.n) = true then some true else some false) else some false) else some false) := by kernel_rfl
  rw [h]
  obtain ⟨a, b, c⟩ := s
  obtain ⟨a', b', c'⟩ := t
  simp only [Sp.mk.injEq]
  by_cases h1 : a = a' <;> by_cases h2 : b = b' <;> by_cases h3 : c = c' <;> simp [h1, h2, h3]
theorem neSpot (s t : Sp) : binv Try.prog .neq 30 (.agg s.e) (.agg t.e) = some (.bool (!decide (s = t))) := by
  have h : binv Try.prog .neq 30 (.agg s.e) (.agg t.e) = Option.map (fun b => PV.bool !b) (if (s.p == t.p) = true then (if (s.u == t.u) = true then (if (s.n == t.n) = true then some true else some false) else some false) else some false) := by kernel_rfl
  rw [h]
  obtain ⟨a, b, c⟩ := s
  obtain ⟨a', b', c'⟩ := t
  simp only [Sp.mk.injEq]
  by_cases h1 : a = a' <;> by_cases h2 : b = b' <;> by_cases h3 : c = c' <;> simp [h1, h2, h3]
theorem remI (t : TypeId) {x y : Int} (h : y ≠ 0) : binv Try.prog .rem t (.int .i64 x) (.int .i64 y) = some (.int .i64 (x.tmod y)) := by
  simp [binv, arith, h]

/-! ### Whether a clock may be -/
def noSp : Sp := ⟨-1, false, false⟩
def okAt (l : List Sp) (i : Nat) (s : Sp) : Bool := decide (s = noSp) || (decide (0 ≤ s.p) && decide (s.p < 64) && idxO (atS l s.p) == (i : Nat))
def okAll (l : List Sp) : List Sp → Nat → Bool
  | [], _ => true
  | s :: r, i => okAt l i s && okAll l r (i + 1)
def Ck.ok (c : Ck) : Bool := decide (1 ≤ c.l.length) && decide (c.l.length ≤ 64) && decide (0 ≤ c.h) && decide (c.h < c.l.length) && okAll c.l c.l 0
theorem lpCheck (c : Ck) (hl : c.l.length < 4611686018427387904) : ∀ (k i : Nat), i + k = c.l.length → Lω 11 lcK11_5 0 (stK11_5 (c.l.map Sp.e) (c.l.length : Nat) (i : Nat)) [.box true 24 [.psl false (c.l.map Sp.e), .int .i64 c.h]] =
    some (if okAll c.l (c.l.drop i) i = true then (.exit 0, mkS 59 [], []) else (.ret, mkS 59 [(2, .int .i64 1)], []))
  | 0, i, h => by
    refine lw ?_
    rw [lqK11_5, if_neg (by simp; omega), List.drop_of_length_le (by omega)]
    rfl
  | k + 1, i, h => by
    have hi : i < c.l.length := by omega
    have hg := List.getElem?_eq_getElem hi
    refine lw ?_
    rw [lqK11_5, if_pos (by simp; omega), if_pos (by omega), Int.toNat_natCast, mapGet hg]
    have hat := spAt c c.l[i].p hl
    have ih := lpCheck c hl k (i + 1) (by omega)
    rw [List.drop_eq_getElem_cons hi]
    unfold okAll okAt
    have he := eqSpot c.l[i] noSp
    generalize c.l[i] = s at hat he
    obtain ⟨p, u, n⟩ := s
    simp only [Sp.e, noSp] at he
    simp only [Ck.v, sps] at hat
    simp only [Sp.e, asInt_int, asBool_bool, asStr_str, asSl_psl, asSl_nil, asAgg_agg, asTup_tup, asCons_cons, asNil_nil, asFlt_flt, asRef_ref, asWhole_whole, asView_view, asWv_whole, asWv_view, asFn_fn, asPref_pref, asOCons_cons, asONil_nil, asBox_box, asMade_made, asGone_dead, asGone_made, asCI_cons, asCB_cons, asCF_cons, asCS_psl, asCS_nil, asCW_cons, asCR_cons, asOM_cons, asOM_false, asOB_cons, asOB_false, asOG_dead, asOG_made, gS_mk, bind_some', onEx_exit, onEx_ret, he]
    by_cases c1 : (⟨p, u, n⟩ : Sp) = ⟨-1, false, false⟩
    · rw [if_neg (by simp [c1]), wrap_succ (by omega), ih]
      simp [c1, noSp]
    · rw [if_pos (by simp [c1])]
      by_cases c2 : p < 0
      · rw [if_pos (by simpa using c2), if_neg]
        simp [noSp, c1]; omega
      rw [if_neg (by simpa using c2)]
      by_cases c3 : p ≥ 64
      · rw [if_pos (by simpa using c3), if_neg]
        simp [noSp, c1]; omega
      rw [if_neg (by simpa using c3)]
      have hat' : pcall Cω 13 [.agg [.psl false (c.l.map Sp.e), .int .i64 c.h], .int .i64 p] = some (.int .i64 (idxO (atS c.l p))) := hat
      simp only [hat', asInt_int, asBool_bool, asStr_str, asSl_psl, asSl_nil, asAgg_agg, asTup_tup, asCons_cons, asNil_nil, asFlt_flt, asRef_ref, asWhole_whole, asView_view, asWv_whole, asWv_view, asFn_fn, asPref_pref, asOCons_cons, asONil_nil, asBox_box, asMade_made, asGone_dead, asGone_made, asCI_cons, asCB_cons, asCF_cons, asCS_psl, asCS_nil, asCW_cons, asCR_cons, asOM_cons, asOM_false, asOB_cons, asOB_false, asOG_dead, asOG_made, gS_mk, bind_some', onEx_exit, onEx_ret]
      by_cases c4 : idxO (atS c.l p) = (i : Nat)
      · rw [if_neg (by simp [c4]), wrap_succ (by omega)]
        rw [ih]
        simp [noSp, c1, c4]
        have : 0 ≤ p ∧ p < 64 := by omega
        simp [this]
      · rw [if_pos (by simpa using c4), if_neg]
        simp [noSp, c1, c4]
theorem spCheck (c : Ck) (hl : c.l.length < 4611686018427387904) : pcall Cω 11 [c.v] = some (.int .i64 (if c.ok = true then 0 else 1)) := by
  have ev := eqK11 Cω Lω (c.l.map Sp.e) c.h
  rw [List.length_map] at ev
  unfold Ck.ok
  by_cases c1 : c.l.length < 1
  · rw [if_pos (by rw [decide_eq_true_eq]; omega)] at ev
    rw [if_neg (by simp; omega)]
    exact pc ev rfl
  rw [if_neg (by rw [decide_eq_true_eq]; omega)] at ev
  by_cases c2 : c.l.length > 64
  · rw [if_pos (by simp; omega)] at ev
    rw [if_neg (by simp; omega)]
    exact pc ev rfl
  rw [if_neg (by simp; omega)] at ev
  by_cases c3 : c.h < 0
  · rw [if_pos (by simpa using c3)] at ev
    rw [if_neg (by simp; omega)]
    exact pc ev rfl
  rw [if_neg (by simpa using c3)] at ev
  by_cases c4 : c.h ≥ c.l.length
  · rw [if_pos (by simpa using c4)] at ev
    rw [if_neg (by simp; omega)]
    exact pc ev rfl
  rw [if_neg (by simpa using c4)] at ev
  have lp := lpCheck c hl c.l.length 0 (by omega)
  rw [List.drop_zero, natz] at lp
  rw [lp] at ev
  by_cases c5 : okAll c.l c.l 0 = true
  · rw [if_pos c5] at ev
    rw [if_pos (by simp [c5]; omega)]
    exact pc ev rfl
  · rw [if_neg c5] at ev
    rw [if_neg (by simp [c5])]
    simp only [asInt_int, asBool_bool, asStr_str, asSl_psl, asSl_nil, asAgg_agg, asTup_tup, asCons_cons, asNil_nil, asFlt_flt, asRef_ref, asWhole_whole, asView_view, asWv_whole, asWv_view, asFn_fn, asPref_pref, asOCons_cons, asONil_nil, asBox_box, asMade_made, asGone_dead, asGone_made, asCI_cons, asCB_cons, asCF_cons, asCS_psl, asCS_nil, asCW_cons, asCR_cons, asOM_cons, asOM_false, asOB_cons, asOB_false, asOG_dead, asOG_made, gS_mk, bind_some', onEx_exit, onEx_ret, getD_mkS (show 2 < 59 by decide)] at ev
    exact pc ev rfl

/-! ### Copies, frames that are found -/
theorem spOwn (c : Ck) (hl : c.l.length ≤ 100) : Cω 12 [c.v] [] = some (.agg [whole 0 3, .int .i64 c.h], [.made true 3 (c.l.map Sp.e)]) := by
  have ev := eqK12 Cω Lω (c.l.map Sp.e) c.h
  rw [cloneK_map c.l Sp.e_ok (by omega)] at ev
  exact cw ev
def findL : Nat → List Sp → Nat → Option Nat × List Sp × Nat
  | 0, l, h => (none, l, h)
  | k + 1, l, h => match l[h]? with
    | none => (none, l, h)
    | some s => if s.n = true then findL k l ((h + 1) % l.length) else if s.u = true then findL k (l.set h { s with u := false }) ((h + 1) % l.length) else (some h, l, (h + 1) % l.length)
def outFind (r : Option Nat × List Sp × Nat) : Ex × List PV × List KO := match r.1 with
  | some i => (.ret, mkS 56 [(2, .int .i64 (i : Nat)), (3, .bool true)], [.box true 24 [whole 1 3, .int .i64 (r.2.2 : Nat)], .made true 3 (r.2.1.map Sp.e)])
  | none => (.exit 0, mkS 56 [], [.box true 24 [whole 1 3, .int .i64 (r.2.2 : Nat)], .made true 3 (r.2.1.map Sp.e)])
theorem lpFind (n m : Nat) (hn : 0 < n) (hm : m < 4611686018427387904) (hn2 : n < 4611686018427387904) : ∀ (k i : Nat) (l : List Sp) (h : Nat), i + k = m → l.length = n → h < n → Lω 14 lcK14_6 2 (stK14_6 (n : Nat) (m : Nat) (i : Nat)) [.box true 24 [whole 1 3, .int .i64 (h : Nat)], .made true 3 (l.map Sp.e)] = some (outFind (findL k l h))
  | 0, i, l, h, e, hl, hh => by
    refine lw ?_
    rw [lqK14_6, if_neg (by simp; omega)]
    rfl
  | k + 1, i, l, h, e, hl, hh => by
    have hg := List.getElem?_eq_getElem (l := l) (i := h) (by omega)
    have hlt : h < l.length := by omega
    refine lw ?_
    rw [lqK14_6, if_pos (by simp; omega), wrap_succ (by omega), remI _ (by omega), bind_some', asInt_int, show (((h + 1 : Nat) : Int)).tmod (n : Int) = (((h + 1) % n : Nat) : Int) from rfl, List.length_map, if_pos ⟨by omega, by omega⟩, Int.toNat_natCast, mapGet hg, mapGetD hg]
    have hnext : (h + 1) % n < n := Nat.mod_lt _ hn
    have p1 : ∀ s : Sp, partOf Try.prog 4 s.e 1 = some (.bool s.u) := fun s => oBool.part _
    have p2 : ∀ s : Sp, partOf Try.prog 4 s.e 2 = some (.bool s.n) := fun s => oBool.part _
    unfold findL
    rw [hg]
    simp only [bind_some', p1, p2, asBool_bool, hl]
    by_cases c1 : l[h].n = true
    · rw [if_pos c1, if_pos c1, wrap_succ (by omega)]
      exact lpFind n m hn hm hn2 k (i + 1) l _ (by omega) hl hnext
    · rw [if_neg c1, if_neg c1]
      by_cases c2 : l[h].u = true
      · rw [if_pos c2, if_pos c2, if_pos (by omega), wrap_succ (by omega)]
        have hov : over l[h].e 1 [.bool false] = Sp.e { l[h] with u := false } := rfl
        rw [hov, ← List.map_set]
        exact lpFind n m hn hm hn2 k (i + 1) _ _ (by omega) (by simpa using hl) hnext
      · rw [if_neg c2, if_neg c2]
        rfl
def findS (l : List Sp) (h : Nat) : Option Nat × List Sp × Nat := match atS l (-1) with
  | some i => (some i, l, h)
  | none => findL (2 * l.length) l h
theorem findL_len : ∀ (k : Nat) (l : List Sp) (h : Nat), (findL k l h).2.1.length = l.length
  | 0, _, _ => rfl
  | k + 1, l, h => by
    unfold findL
    split
    · rfl
    · split
      · exact findL_len k _ _
      · split
        · rw [findL_len k]; simp
        · rfl
theorem findS_len (l : List Sp) (h : Nat) : (findS l h).2.1.length = l.length := by
  unfold findS
  split
  · rfl
  · exact findL_len _ _ _
theorem spFind (l : List Sp) (h : Nat) (hh : h < l.length) (hl : l.length ≤ 100) : Cω 14 [.ref 0 0 0] [.box true 24 [whole 1 3, .int .i64 (h : Nat)], .made true 3 (l.map Sp.e)] =
    some (.tuple [.int .i64 (idxO (findS l h).1), .bool (findS l h).1.isSome], [.box true 24 [whole 1 3, .int .i64 ((findS l h).2.2 : Nat)], .made true 3 ((findS l h).2.1.map Sp.e)]) := by
  have ev := eqK14 Cω Lω (h : Nat) (l.map Sp.e)
  have ha := spAt ⟨l, (h : Nat)⟩ (-1) (by show l.length < _; omega)
  simp only [Ck.v, sps] at ha
  simp only [ha, asInt_int, asBool_bool, asStr_str, asSl_psl, asSl_nil, asAgg_agg, asTup_tup, asCons_cons, asNil_nil, asFlt_flt, asRef_ref, asWhole_whole, asView_view, asWv_whole, asWv_view, asFn_fn, asPref_pref, asOCons_cons, asONil_nil, asBox_box, asMade_made, asGone_dead, asGone_made, asCI_cons, asCB_cons, asCF_cons, asCS_psl, asCS_nil, asCW_cons, asCR_cons, asOM_cons, asOM_false, asOB_cons, asOB_false, asOG_dead, asOG_made, gS_mk, bind_some', onEx_exit, onEx_ret] at ev
  unfold findS
  cases hq : atS l (-1) with
  | some i =>
    rw [hq, if_pos (by simp [idxO])] at ev
    exact cw ev
  | none =>
    rw [hq, if_neg (by simp [idxO]), List.length_map, show IntKind.wrap .i64 (2 * ((l.length : Nat) : Int)) = ((2 * l.length : Nat) : Int) by rw [wrap_i64 (by omega) (by omega)]; omega] at ev
    have lp := lpFind l.length (2 * l.length) (by omega) (by omega) (by omega) (2 * l.length) 0 l h (by omega) rfl hh
    rw [natz] at lp
    rw [lp] at ev
    refine cw (ev.trans ?_)
    simp only
    generalize findL (2 * l.length) l h = r
    obtain ⟨o, l', h'⟩ := r
    cases o with
    | none =>
      simp only [outFind, asInt_int, asBool_bool, asStr_str, asSl_psl, asSl_nil, asAgg_agg, asTup_tup, asCons_cons, asNil_nil, asFlt_flt, asRef_ref, asWhole_whole, asView_view, asWv_whole, asWv_view, asFn_fn, asPref_pref, asOCons_cons, asONil_nil, asBox_box, asMade_made, asGone_dead, asGone_made, asCI_cons, asCB_cons, asCF_cons, asCS_psl, asCS_nil, asCW_cons, asCR_cons, asOM_cons, asOM_false, asOB_cons, asOB_false, asOG_dead, asOG_made, gS_mk, bind_some', onEx_exit, onEx_ret]
      rfl
    | some i =>
      simp only [outFind, asInt_int, asBool_bool, asStr_str, asSl_psl, asSl_nil, asAgg_agg, asTup_tup, asCons_cons, asNil_nil, asFlt_flt, asRef_ref, asWhole_whole, asView_view, asWv_whole, asWv_view, asFn_fn, asPref_pref, asOCons_cons, asONil_nil, asBox_box, asMade_made, asGone_dead, asGone_made, asCI_cons, asCB_cons, asCF_cons, asCS_psl, asCS_nil, asCW_cons, asCR_cons, asOM_cons, asOM_false, asOB_cons, asOB_false, asOG_dead, asOG_made, gS_mk, bind_some', onEx_exit, onEx_ret, getD_mkS (show 2 < 56 by decide), getD_mkS (show 3 < 56 by decide)]
      rfl
/-! ### A page is used -/
def touchS (c : Ck) (page : Int) : Ck × Int × Int × Int :=
  if c.ok = false then (⟨[], 0⟩, -1, -1, 1) else if page < 0 ∨ page ≥ 64 then (c, -1, -1, 1) else
  match atS c.l page with
  | some i => (⟨c.l.set i { c.l.getD i noSp with u := true }, c.h⟩, (i : Nat), -1, 0)
  | none => match findS c.l c.h.toNat with
    | (some i, l, h) => (⟨l.set i ⟨page, true, false⟩, (h : Nat)⟩, (i : Nat), (l.getD i noSp).p, 0)
    | (none, _, _) => (c, -1, -1, 11)
theorem ok_len {c : Ck} (h : c.ok = true) : 1 ≤ c.l.length ∧ c.l.length ≤ 64 ∧ 0 ≤ c.h ∧ c.h < c.l.length := by
  unfold Ck.ok at h
  simp only [Bool.and_eq_true, decide_eq_true_eq] at h
  exact ⟨h.1.1.1.1, h.1.1.1.2, h.1.1.2, h.1.2⟩
theorem atS_lt {l : List Sp} {p : Int} {i : Nat} (h : atS l p = some i) : i < l.length := by
  unfold atS at h
  exact (List.findIdx?_eq_some_iff_getElem.1 h).1
theorem findL_lt : ∀ (k : Nat) (l : List Sp) (h i : Nat), h < l.length → (findL k l h).1 = some i → i < l.length ∧ (findL k l h).2.2 < l.length
  | 0, _, _, _, _, e => by cases e
  | k + 1, l, h, i, hh, e => by
    unfold findL at e ⊢
    rw [List.getElem?_eq_getElem hh] at e ⊢
    simp only at e ⊢
    have hm : (h + 1) % l.length < l.length := Nat.mod_lt _ (by omega)
    split at e
    · rename_i c
      rw [if_pos c]
      exact findL_lt k l _ i hm e
    · rename_i c
      rw [if_neg c]
      split at e
      · rename_i c2
        rw [if_pos c2]
        have := findL_lt k (l.set h { l[h] with u := false }) ((h + 1) % l.length) i (by simpa using hm) e
        simpa using this
      · rename_i c2
        rw [if_neg c2]
        cases e
        exact ⟨hh, hm⟩
theorem findS_lt {l : List Sp} {h i : Nat} (hh : h < l.length) (e : (findS l h).1 = some i) : i < l.length ∧ (findS l h).2.2 < l.length := by
  unfold findS at e ⊢
  split at e
  · rename_i j hj
    cases e
    exact ⟨atS_lt hj, hh⟩
  · exact findL_lt _ _ _ _ hh e
theorem spTouch (c : Ck) (page : Int) (hl : c.l.length ≤ 100) : pcall Cω 8 [c.v, .int .i64 page] = some (.tuple [(touchS c page).1.v, .int .i64 (touchS c page).2.1, .int .i64 (touchS c page).2.2.1, .int .i64 (touchS c page).2.2.2]) := by
  have ev := eqK8 Cω Lω (c.l.map Sp.e) c.h page
  have hc := spCheck c (by omega)
  simp only [Ck.v, sps] at hc
  simp only [hc, asInt_int, asBool_bool, asStr_str, asSl_psl, asSl_nil, asAgg_agg, asTup_tup, asCons_cons, asNil_nil, asFlt_flt, asRef_ref, asWhole_whole, asView_view, asWv_whole, asWv_view, asFn_fn, asPref_pref, asOCons_cons, asONil_nil, asBox_box, asMade_made, asGone_dead, asGone_made, asCI_cons, asCB_cons, asCF_cons, asCS_psl, asCS_nil, asCW_cons, asCR_cons, asOM_cons, asOM_false, asOB_cons, asOB_false, asOG_dead, asOG_made, gS_mk, bind_some', onEx_exit, onEx_ret] at ev
  unfold touchS
  by_cases c1 : c.ok = true
  · rw [if_pos c1, if_neg (by decide)] at ev
    rw [if_neg (by rw [c1]; decide)]
    obtain ⟨k1, k2, k3, k4⟩ := ok_len c1
    have ho := spOwn c hl
    simp only [Ck.v, sps] at ho
    simp only [ho, asInt_int, asBool_bool, asStr_str, asSl_psl, asSl_nil, asAgg_agg, asTup_tup, asCons_cons, asNil_nil, asFlt_flt, asRef_ref, asWhole_whole, asView_view, asWv_whole, asWv_view, asFn_fn, asPref_pref, asOCons_cons, asONil_nil, asBox_box, asMade_made, asGone_dead, asGone_made, asCI_cons, asCB_cons, asCF_cons, asCS_psl, asCS_nil, asCW_cons, asCR_cons, asOM_cons, asOM_false, asOB_cons, asOB_false, asOG_dead, asOG_made, gS_mk, bind_some', onEx_exit, onEx_ret] at ev
    have fin0 : ∀ (a b e : Int), (fzK fuelFz [KO.made true 3 (c.l.map Sp.e)] (.tuple [.agg [whole 0 3, .int .i64 c.h], .int .i64 a, .int .i64 b, .int .i64 e])) = .tuple [c.v, .int .i64 a, .int .i64 b, .int .i64 e] := fun _ _ _ => rfl
    by_cases c2 : page < 0
    · rw [if_pos (by simpa using c2)] at ev
      rw [if_pos (.inl c2)]
      exact pc ev (fin0 _ _ _)
    rw [if_neg (by simpa using c2)] at ev
    by_cases c3 : page ≥ 64
    · rw [if_pos (by simpa using c3)] at ev
      rw [if_pos (.inr c3)]
      exact pc ev (fin0 _ _ _)
    rw [if_neg (by simpa using c3)] at ev
    rw [if_neg (by omega)]
    have ha := spAt c page (by omega)
    simp only [Ck.v, sps] at ha
    simp only [ha, asInt_int, asBool_bool, asStr_str, asSl_psl, asSl_nil, asAgg_agg, asTup_tup, asCons_cons, asNil_nil, asFlt_flt, asRef_ref, asWhole_whole, asView_view, asWv_whole, asWv_view, asFn_fn, asPref_pref, asOCons_cons, asONil_nil, asBox_box, asMade_made, asGone_dead, asGone_made, asCI_cons, asCB_cons, asCF_cons, asCS_psl, asCS_nil, asCW_cons, asCR_cons, asOM_cons, asOM_false, asOB_cons, asOB_false, asOG_dead, asOG_made, gS_mk, bind_some', onEx_exit, onEx_ret] at ev
    cases hq : atS c.l page with
    | some i =>
      have hi := atS_lt hq
      have hg := List.getElem?_eq_getElem hi
      simp only [hq, idxO] at ev
      rw [if_pos (by simp), List.length_map, if_pos ⟨by omega, by omega⟩, Int.toNat_natCast, if_pos hi, mapGetD hg] at ev
      have hov : over c.l[i].e 1 [.bool true] = Sp.e { c.l[i] with u := true } := rfl
      have hgd : c.l.getD i noSp = c.l[i] := by rw [List.getD_eq_getElem?_getD, hg]; rfl
      rw [hov, ← List.map_set] at ev
      simp only [hgd]
      exact pc ev rfl
    | none =>
      simp only [hq, idxO] at ev
      rw [if_neg (by decide)] at ev
      have hf := spFind c.l c.h.toNat (by omega) hl
      rw [show ((c.h.toNat : Nat) : Int) = c.h by omega] at hf
      simp only [hf, asInt_int, asBool_bool, asStr_str, asSl_psl, asSl_nil, asAgg_agg, asTup_tup, asCons_cons, asNil_nil, asFlt_flt, asRef_ref, asWhole_whole, asView_view, asWv_whole, asWv_view, asFn_fn, asPref_pref, asOCons_cons, asONil_nil, asBox_box, asMade_made, asGone_dead, asGone_made, asCI_cons, asCB_cons, asCF_cons, asCS_psl, asCS_nil, asCW_cons, asCR_cons, asOM_cons, asOM_false, asOB_cons, asOB_false, asOG_dead, asOG_made, gS_mk, bind_some', onEx_exit, onEx_ret] at ev
      have hlt := fun i => findS_lt (l := c.l) (h := c.h.toNat) (i := i) (by omega)
      have hln := findS_len c.l c.h.toNat
      generalize findS c.l c.h.toNat = r at ev hlt hln
      obtain ⟨o, l, h⟩ := r
      cases o with
      | none =>
        simp only [Option.isSome_none, Bool.not_false, if_true] at ev
        exact pc ev (fin0 _ _ _)
      | some i =>
        have hi : i < l.length := by rw [hln]; exact (hlt i rfl).1
        have hg := List.getElem?_eq_getElem hi
        have hgd : l.getD i noSp = l[i] := by rw [List.getD_eq_getElem?_getD, hg]; rfl
        have p0 : ∀ s : Sp, partOf Try.prog 3 s.e 0 = some (.int .i64 s.p) := fun s => oInt.part _
        simp only [Option.isSome_some, Bool.not_true, Bool.false_eq_true, if_false, idxO] at ev
        have hb : (0 : Int) ≤ (i : Nat) ∧ ((i : Nat) : Int) < (l.length : Nat) := ⟨by omega, by omega⟩
        simp only [List.length_map, Int.toNat_natCast, mapGet hg, bind_some', p0, asInt_int, if_pos hb, if_pos hi] at ev
        have he : ([(.int .i64 page), (.bool true), (.bool false)] : List PV) = Sp.e ⟨page, true, false⟩ := rfl
        rw [he, ← List.map_set] at ev
        simp only [hgd]
        exact pc ev rfl
  · rw [if_neg c1, if_pos (by decide)] at ev
    rw [if_pos (by simpa using c1)]
    exact pc ev rfl

/-! ### New ones -/
def newS (n : Int) : Ck × Int := if n < 1 ∨ n > 64 then (⟨[], 0⟩, 1) else (⟨List.replicate n.toNat noSp, 0⟩, 0)
theorem spNew (n : Int) : pcall Cω 6 [.int .i64 n] = some (.tuple [(newS n).1.v, .int .i64 (newS n).2]) := by
  have ev := eqK6 Cω Lω n
  unfold newS
  by_cases c1 : n < 1
  · rw [if_pos (by simpa using c1)] at ev
    rw [if_pos (.inl c1)]
    exact pc ev rfl
  rw [if_neg (by simpa using c1)] at ev
  by_cases c2 : n > 64
  · rw [if_pos (by simpa using c2)] at ev
    rw [if_pos (.inr c2)]
    exact pc ev rfl
  rw [if_neg (by simpa using c2)] at ev
  rw [if_neg (by omega)]
  have hr := spRep (e := noSp.e) ⟨rfl, rfl⟩ (n := n.toNat) (by omega) (by omega)
  rw [show ((n.toNat : Nat) : Int) = n by omega] at hr
  have hr' : pcall Cω 10 [.psl false [[.int .i64 (-1), .bool false, .bool false]], .int .i64 n] = some (.psl false (List.replicate n.toNat noSp.e)) := hr
  simp only [hr', asInt_int, asBool_bool, asStr_str, asSl_psl, asSl_nil, asAgg_agg, asTup_tup, asCons_cons, asNil_nil, asFlt_flt, asRef_ref, asWhole_whole, asView_view, asWv_whole, asWv_view, asFn_fn, asPref_pref, asOCons_cons, asONil_nil, asBox_box, asMade_made, asGone_dead, asGone_made, asCI_cons, asCB_cons, asCF_cons, asCS_psl, asCS_nil, asCW_cons, asCR_cons, asOM_cons, asOM_false, asOB_cons, asOB_false, asOG_dead, asOG_made, gS_mk, bind_some', onEx_exit, onEx_ret] at ev
  refine pc ev ?_
  show PV.tuple [.agg [.psl false (List.replicate n.toNat noSp.e), .int .i64 0], .int .i64 0] = .tuple [.agg [.psl false ((List.replicate n.toNat noSp).map Sp.e), .int .i64 0], .int .i64 0]
  rw [List.map_replicate]
end Go.Pvm.S
