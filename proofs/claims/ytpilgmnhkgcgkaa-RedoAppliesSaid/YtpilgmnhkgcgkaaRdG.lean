/- Part of the proof: images behind a group: what the program's and the document's come to. -/
import Derived.Test.YtpilgmnhkgcgkaaRdF
set_option linter.unusedSimpArgs false
set_option linter.unusedVariables false
set_option maxRecDepth 100000
namespace Go.Pvm.S
open Go.Pvm Go.Proofs
theorem spApF (a : Img) (x : Int) : pcall Cω 30 [.agg a.r, .int .i64 x] = some (.int .i64 (IntKind.wrap .i64 (a.1 - x))) := pc (eqK30 Cω Lω a.1 (a.2.map cB) x) rfl
/-! Searching by halves. -/
theorem bfI_lp (l : List Img) (x : Int) (hl : l.length < 1073741824) (p : Nat) (hp : p ≤ l.length) (hk : ∀ k a, l[k]? = some a → ((fun (a : Img) (x : Int) => IntKind.wrap .i64 (a.1 - x)) a x < 0 ↔ k < p)) : ∀ m lo hi : Nat, hi - lo ≤ m → lo ≤ p → p ≤ hi → hi ≤ l.length →
    Lω 29 lcK29_3_30 0 (stK29_3_30 (l.map Img.r) x (l.length : Nat) (lo : Nat) (hi : Nat)) [] = some (.exit 0, mkS 49 [(0, .psl false (l.map Img.r)), (1, .int .i64 x), (2, .func 30 []), (8, .int .i64 (l.length : Nat)), (9, .int .i64 (p : Nat))], []) := by
  intro m
  induction m with
  | zero =>
    intro lo hi hm h1 h2 h3
    have : lo = hi := by omega
    subst this
    have : p = lo := by omega
    subst this
    refine lw ?_
    rw [lqK29_3_30, if_neg (by simp)]
  | succ m ih =>
    intro lo hi hm h1 h2 h3
    by_cases hlt : lo < hi
    · have hh : (lo + hi) / 2 < l.length := by omega
      have hg := List.getElem?_eq_getElem hh
      have hc := hk _ _ hg
      refine lw ?_
      rw [lqK29_3_30, if_pos (by simp; omega), half (by omega), if_pos (nn _), Int.toNat_natCast, mapGet hg]
      have hs := spApF l[(lo + hi) / 2] x
      simp only [Img.r] at hs
      simp only [Img.r, asInt_int, asBool_bool, asStr_str, asSl_psl, asSl_nil, asAgg_agg, asTup_tup, asCons_cons, asNil_nil, asFlt_flt, asRef_ref, asWhole_whole, asView_view, asWv_whole, asWv_view, asFn_fn, asPref_pref, asOCons_cons, asONil_nil, asBox_box, asMade_made, asGone_dead, asGone_made, asCI_cons, asCB_cons, asCF_cons, asCS_psl, asCS_nil, asCW_cons, asCR_cons, asOM_cons, asOM_false, asOB_cons, asOB_false, asOG_dead, asOG_made, gS_mk, bind_some', onEx_exit, onEx_ret, hs]
      by_cases hq : (fun (a : Img) (x : Int) => IntKind.wrap .i64 (a.1 - x)) l[(lo + hi) / 2] x < 0
      · rw [if_pos (by rw [decide_eq_true_eq]; exact hq), wrap_succ (by omega)]
        exact ih _ hi (by omega) (by have := hc.1 hq; omega) h2 h3
      · rw [if_neg (by rw [decide_eq_true_eq]; exact hq)]
        exact ih lo _ (by omega) h1 (by have : ¬ _ := fun h => hq (hc.2 h); omega) (by omega)
    · exact ih lo hi (by omega) h1 h2 h3
theorem bfI_sp (l : List Img) (x : Int) (hl : l.length < 1073741824) (p : Nat) (hp : p ≤ l.length) (hk : ∀ k a, l[k]? = some a → ((fun (a : Img) (x : Int) => IntKind.wrap .i64 (a.1 - x)) a x < 0 ↔ k < p)) :
    pcall Cω 29 [.psl false (l.map Img.r), .int .i64 x, .func 30 []] = some (.tuple [.int .i64 (p : Nat), .bool (match l[p]? with | some a => (fun (a : Img) (x : Int) => IntKind.wrap .i64 (a.1 - x)) a x == 0 | none => false)]) := by
  have ev := eqK29_30 Cω Lω (l.map Img.r) x
  have lp := bfI_lp l x hl p hp hk l.length 0 l.length (by omega) (by omega) hp (Nat.le_refl _)
  rw [natz] at lp
  try simp only [Img.r] at lp
  rw [List.length_map] at ev
  try simp only [Img.r] at ev
  try simp only [Img.r]
  rw [lp] at ev
  simp only [asInt_int, asBool_bool, asStr_str, asSl_psl, asSl_nil, asAgg_agg, asTup_tup, asCons_cons, asNil_nil, asFlt_flt, asRef_ref, asWhole_whole, asView_view, asWv_whole, asWv_view, asFn_fn, asPref_pref, asOCons_cons, asONil_nil, asBox_box, asMade_made, asGone_dead, asGone_made, asCI_cons, asCB_cons, asCF_cons, asCS_psl, asCS_nil, asCW_cons, asCR_cons, asOM_cons, asOM_false, asOB_cons, asOB_false, asOG_dead, asOG_made, gS_mk, bind_some', onEx_exit, onEx_ret, mkS_hit, mkS_miss, ne_eq, not_false_eq_true, Nat.reduceLT, Nat.reduceEqDiff, if_true] at ev
  by_cases h : p < l.length
  · have hg := List.getElem?_eq_getElem h
    rw [if_pos (by rw [decide_eq_true_eq]; omega), if_pos (nn _), Int.toNat_natCast] at ev
    have hg2 := mapGet (f := Img.r) hg
    simp only [Img.r] at hg2
    rw [hg2] at ev
    have hs := spApF l[p] x
    simp only [Img.r] at hs
    simp only [asInt_int, asBool_bool, asStr_str, asSl_psl, asSl_nil, asAgg_agg, asTup_tup, asCons_cons, asNil_nil, asFlt_flt, asRef_ref, asWhole_whole, asView_view, asWv_whole, asWv_view, asFn_fn, asPref_pref, asOCons_cons, asONil_nil, asBox_box, asMade_made, asGone_dead, asGone_made, asCI_cons, asCB_cons, asCF_cons, asCS_psl, asCS_nil, asCW_cons, asCR_cons, asOM_cons, asOM_false, asOB_cons, asOB_false, asOG_dead, asOG_made, gS_mk, bind_some', onEx_exit, onEx_ret, hs] at ev
    rw [hg]
    exact pc ev rfl
  · rw [if_neg (by rw [decide_eq_true_eq]; omega)] at ev
    rw [List.getElem?_eq_none (by omega)]
    exact pc ev rfl

theorem putI_at {m : Img} : ∀ {l : List Img} {p : Nat}, Up l → p ≤ l.length → (∀ k a, l[k]? = some a → (a.1 < m.1 ↔ k < p)) → putI m l = if (match l[p]? with | some a => a.1 == m.1 | none => false) = true then l.set p m else l.take p ++ m :: l.drop p
  | [], p, _, hp, _ => by
    have : p = 0 := by simpa using hp
    subst this; rfl
  | a :: l, 0, h, _, hk => by
    have h0 : ¬ a.1 < m.1 := fun e => by have := (hk 0 a rfl).1 e; omega
    unfold putI
    rw [if_neg h0]
    simp only [List.getElem?_cons_zero, beq_iff_eq]
    split <;> rfl
  | a :: l, p + 1, h, hp, hk => by
    have h0 : a.1 < m.1 := (hk 0 a rfl).2 (Nat.succ_pos p)
    have ih := putI_at (m := m) (l := l) (p := p) (List.pairwise_cons.1 h).2 (Nat.le_of_succ_le_succ hp) fun k b hb => by
      have := hk (k + 1) b (by simpa using hb)
      omega
    unfold putI
    rw [if_pos h0, ih, List.getElem?_cons_succ]
    cases l[p]? with
    | none => rfl
    | some b =>
      simp only
      split <;> rfl
theorem putI_sm {m : Img} (hm : Sm m) {l : List Img} (h : ∀ x ∈ l, Sm x) : ∀ x ∈ putI m l, Sm x := fun x hx => by
  rcases putI_mem hx with rfl | hx
  · exact hm
  · exact h x hx
theorem lpApply (l : List Img) (hl : l.length ≤ 1000) (hs : ∀ m ∈ l, Sm m) : ∀ (k i : Nat) (out : List Img), i + k = l.length → Up out → (∀ m ∈ out, Sm m) → out.length + k ≤ 1000000 →
    Lω 20 lcK20_3 0 (stK20_3 (l.map Img.r) (l.length : Nat) (i : Nat)) [.made true 2 (out.map Img.r)] = some (.exit 0, mkS 42 [(5, whole 0 2)], [.made true 2 ((appI (l.drop i) out).map Img.r)])
  | 0, i, out, hi, hu, ho, hb => by
    refine lw ?_
    rw [lqK20_3, if_neg (by rw [decide_eq_true_eq]; omega), List.drop_of_length_le (by omega)]
    rfl
  | k + 1, i, out, hi, hu, ho, hb => by
    have hil : i < l.length := by omega
    have hg := List.getElem?_eq_getElem hil
    have hm := hs _ (List.getElem_mem hil)
    rw [List.drop_eq_getElem_cons hil]
    generalize hx : l[i] = m at hg hm
    obtain ⟨h1, h2⟩ := front_spec (q := fun a : Img => decide (a.1 < m.1)) (l := out) (fun i j a b hij ha hb hq => by
      have := chain_lt (lt := fun a b : Img => a.1 < b.1) (fun _ _ _ => Int.lt_trans) (fun i a b ha hb => by
        obtain ⟨q1, q2⟩ := List.getElem?_eq_some_iff.1 ha
        obtain ⟨q3, q4⟩ := List.getElem?_eq_some_iff.1 hb
        have := List.pairwise_iff_getElem.1 hu i (i + 1) q1 q3 (Nat.lt_succ_self _)
        rw [q2, q4] at this
        exact this) hij ha hb
      rw [decide_eq_true_eq] at hq ⊢
      omega)
    generalize (out.takeWhile fun a : Img => decide (a.1 < m.1)).length = p at h1 h2
    have hk : ∀ k a, out[k]? = some a → (a.1 < m.1 ↔ k < p) := fun k a h => by have := h2 k a h; rwa [decide_eq_true_eq] at this
    have hw : ∀ a ∈ out, IntKind.wrap .i64 (a.1 - m.1) = a.1 - m.1 := fun a ha => by
      have := ho a ha
      exact wrap_i64 (by unfold Sm at this hm; omega) (by unfold Sm at this hm; omega)
    have sb := bfI_sp out m.1 (by omega) p h1 (fun k a h => by
      show IntKind.wrap .i64 (a.1 - m.1) < 0 ↔ k < p
      rw [hw a (List.mem_of_getElem? h), ← hk k a h]
      omega)
    have hput := putI_at hu h1 hk
    have hc : cloneK 1 1 [.psl false (m.2.map cB)] = some (m.2.map cB) := cloneK_map m.2 cB_ok (by rw [hm.2.2]; decide)
    have hp := putI_len m out
    have ih := lpApply l hl hs k (i + 1) (putI m out) (by omega) (putI_up hu) (putI_sm hm ho) (by omega)
    refine lw ?_
    rw [lqK20_3, if_pos (by rw [decide_eq_true_eq]; omega), if_pos (nn _), Int.toNat_natCast, mapGet hg]
    simp only [Img.r] at sb ih ⊢
    simp only [asInt_int, asBool_bool, asStr_str, asSl_psl, asSl_nil, asAgg_agg, asTup_tup, asCons_cons, asNil_nil, asFlt_flt, asRef_ref, asWhole_whole, asView_view, asWv_whole, asWv_view, asFn_fn, asPref_pref, asOCons_cons, asONil_nil, asBox_box, asMade_made, asGone_dead, asGone_made, asCI_cons, asCB_cons, asCF_cons, asCS_psl, asCS_nil, asCW_cons, asCR_cons, asOM_cons, asOM_false, asOB_cons, asOB_false, asOG_dead, asOG_made, gS_mk, bind_some', onEx_exit, onEx_ret, sb, hc, Option.map_some]
    have hE : (match out[p]? with | some a => a.1 == m.1 | none => false) = (match out[p]? with | some a => IntKind.wrap .i64 (a.1 - m.1) == 0 | none => false) := by
      cases hq : out[p]? with
      | none => rfl
      | some a =>
        simp only
        rw [hw a (List.mem_of_getElem? hq)]
        by_cases e : a.1 = m.1
        · rw [e]; simp
        · have : ¬ a.1 - m.1 = 0 := by omega
          rw [beq_eq_false_iff_ne.2 e, beq_eq_false_iff_ne.2 this]
    rw [← hE]
    show _ = some (Ex.exit 0, _, [KO.made true 2 (((appI (l.drop (i + 1)) (putI m out))).map Img.r)])
    by_cases c : (match out[p]? with | some a => a.1 == m.1 | none => false) = true
    · have hpl : p < out.length := by
        rcases Nat.lt_or_ge p out.length with h | h
        · exact h
        · rw [List.getElem?_eq_none h] at c; cases c
      rw [if_pos c] at hput ⊢
      rw [if_pos ⟨nn _, by rw [List.length_map]; omega⟩, Int.toNat_natCast, if_pos (by rw [List.length_map]; exact hpl), wrap_succ (by omega)]
      rw [hput] at ih ⊢
      rw [List.map_set] at ih
      exact ih
    · rw [if_neg c] at hput ⊢
      rw [if_pos ⟨nn _, by rw [List.length_map, Int.toNat_natCast]; exact h1⟩, if_pos (by simp; omega), Int.toNat_natCast, wrap_succ (by omega)]
      rw [hput] at ih ⊢
      rw [List.map_append, List.map_cons, List.map_take, List.map_drop] at ih
      rw [List.append_assoc]
      exact ih
theorem spApply (p g : List Img) (hs : ∀ m ∈ p ++ g, Sm m) (h0 : 0 < p.length + g.length) (hl : p.length + g.length ≤ 1000) : pcall Cω 20 [.psl false (p.map Img.r), .psl false (g.map Img.r)] = some (.psl false ((appI (p ++ g) []).map Img.r)) := by
  have ev := eqK20 Cω Lω (p.map Img.r) (g.map Img.r)
  have lp := lpApply (p ++ g) (by simp; omega) hs (p ++ g).length 0 [] (by omega) .nil (fun _ h => by cases h) (by simp; omega)
  rw [natz, List.drop_zero, List.map_nil] at lp
  rw [concatK_two p g (enc := Img.r) (fun a => ⟨rfl, rfl⟩) h0 (by omega)] at ev
  simp only [Option.map_some, asInt_int, asBool_bool, asStr_str, asSl_psl, asSl_nil, asAgg_agg, asTup_tup, asCons_cons, asNil_nil, asFlt_flt, asRef_ref, asWhole_whole, asView_view, asWv_whole, asWv_view, asFn_fn, asPref_pref, asOCons_cons, asONil_nil, asBox_box, asMade_made, asGone_dead, asGone_made, asCI_cons, asCB_cons, asCF_cons, asCS_psl, asCS_nil, asCW_cons, asCR_cons, asOM_cons, asOM_false, asOB_cons, asOB_false, asOG_dead, asOG_made, gS_mk, bind_some', onEx_exit, onEx_ret, List.length_map] at ev
  rw [lp] at ev
  simp only [asInt_int, asBool_bool, asStr_str, asSl_psl, asSl_nil, asAgg_agg, asTup_tup, asCons_cons, asNil_nil, asFlt_flt, asRef_ref, asWhole_whole, asView_view, asWv_whole, asWv_view, asFn_fn, asPref_pref, asOCons_cons, asONil_nil, asBox_box, asMade_made, asGone_dead, asGone_made, asCI_cons, asCB_cons, asCF_cons, asCS_psl, asCS_nil, asCW_cons, asCR_cons, asOM_cons, asOM_false, asOB_cons, asOB_false, asOG_dead, asOG_made, gS_mk, bind_some', onEx_exit, onEx_ret, mkS_hit, mkS_miss, ne_eq, not_false_eq_true, Nat.reduceLT, Nat.reduceEqDiff, if_true] at ev
  exact pc ev rfl

/-! ### The document's -/
def refIn (m : Img) : List Img → Bool → List Img → Bool × List Img
  | [], put, out => (put, out)
  | a :: l, true, out => refIn m l true (if a.1 ≠ m.1 then out ++ [a] else out)
  | a :: l, false, out => if m.1 ≤ a.1 then refIn m l true (if a.1 ≠ m.1 then out ++ [m] ++ [a] else out ++ [m]) else refIn m l false (if a.1 ≠ m.1 then out ++ [a] else out)
def refOne (m : Img) (l : List Img) : List Img := if (refIn m l false []).1 = true then (refIn m l false []).2 else (refIn m l false []).2 ++ [m]
theorem refIn_put {m : Img} : ∀ {l out : List Img}, (∀ x ∈ l, m.1 < x.1) → refIn m l true out = (true, out ++ l)
  | [], out, _ => by rw [List.append_nil]; rfl
  | a :: l, out, h => by
    have := h a (.head _)
    unfold refIn
    rw [if_pos (by omega), refIn_put fun x hx => h x (.tail _ hx), List.append_assoc]
    rfl
theorem refIn_eq {m : Img} : ∀ {l out : List Img}, Up l → (if (refIn m l false out).1 = true then (refIn m l false out).2 else (refIn m l false out).2 ++ [m]) = out ++ putI m l
  | [], out, _ => rfl
  | a :: l, out, h => by
    have ⟨h1, h2⟩ := List.pairwise_cons.1 h
    have e1 : refIn m (a :: l) false out = if m.1 ≤ a.1 then refIn m l true (if a.1 ≠ m.1 then out ++ [m] ++ [a] else out ++ [m]) else refIn m l false (if a.1 ≠ m.1 then out ++ [a] else out) := rfl
    have e2 : putI m (a :: l) = if a.1 < m.1 then a :: putI m l else if a.1 = m.1 then m :: l else m :: a :: l := rfl
    by_cases c : m.1 ≤ a.1
    · rw [if_pos c] at e1
      have hc : ¬ a.1 < m.1 := by omega
      rw [if_neg hc] at e2
      have hl : ∀ x ∈ l, m.1 < x.1 := fun x hx => by have := h1 x hx; omega
      rw [refIn_put hl] at e1
      rw [e1, e2]
      simp only [if_true]
      by_cases d : a.1 = m.1
      · rw [if_neg (by simpa using d), if_pos d, List.append_assoc]; rfl
      · rw [if_pos d, if_neg d]; simp
    · rw [if_neg c] at e1
      have hc : a.1 < m.1 := by omega
      have hd : a.1 ≠ m.1 := by omega
      rw [if_pos hd] at e1
      rw [if_pos hc] at e2
      rw [e1, e2, refIn_eq h2, List.append_assoc]
      rfl
theorem refOne_eq {m : Img} {l : List Img} (h : Up l) : refOne m l = putI m l := by
  have := refIn_eq (m := m) (out := []) h
  rwa [List.nil_append] at this
theorem refIn_len (m : Img) : ∀ (l : List Img) (b : Bool) (out : List Img), (refIn m l b out).2.length ≤ out.length + l.length + (if b = true then 0 else 1)
  | [], b, out => by show out.length ≤ _; simp
  | a :: l, true, out => by
    unfold refIn
    refine Nat.le_trans (refIn_len m l true _) ?_
    split <;> simp <;> omega
  | a :: l, false, out => by
    unfold refIn
    split
    · refine Nat.le_trans (refIn_len m l true _) ?_
      split <;> simp <;> omega
    · refine Nat.le_trans (refIn_len m l false _) ?_
      split <;> simp <;> omega
theorem lpRIn (pages g : List Img) {i : Nat} {m : Img} (hm : g[i]? = some m) (hpl : pages.length ≤ 1000000) : ∀ (k j : Nat) (put : Bool) (out : List Img), j + k = pages.length → out.length + 2 * k ≤ 1000000 →
    Lω 21 lcK21_7 0 (stK21_7 (pages.map Img.r) (g.map Img.r) (i : Nat) put (j : Nat)) [.made true 2 (out.map Img.r)] =
      some (.exit 2, mkS 73 [(1, .psl false (g.map Img.r)), (5, .int .i64 (i : Nat)), (6, whole 0 2), (7, .bool (refIn m (pages.drop j) put out).1)], [.made true 2 ((refIn m (pages.drop j) put out).2.map Img.r)])
  | 0, j, put, out, hj, hb => by
    refine lw ?_
    rw [lqK21_7, if_neg (by rw [decide_eq_true_eq, List.length_map]; omega), List.drop_of_length_le (by omega)]
    rfl
  | k + 1, j, put, out, hj, hb => by
    have hjl : j < pages.length := by omega
    have hg := List.getElem?_eq_getElem hjl
    rw [List.drop_eq_getElem_cons hjl]
    generalize pages[j] = a at hg
    have ih := lpRIn pages g hm hpl k (j + 1)
    have hgm := mapGet (f := Img.r) hm
    have hga := mapGet (f := Img.r) hg
    have w1 : ∀ o : List Img, o ++ [a] = o ++ [a] := fun _ => rfl
    refine lw ?_
    rw [lqK21_7, if_pos (by rw [decide_eq_true_eq, List.length_map]; omega)]
    simp only [if_pos (nn _), Int.toNat_natCast, hga, hgm]
    simp only [Img.r, asInt_int, asBool_bool, asStr_str, asSl_psl, asSl_nil, asAgg_agg, asTup_tup, asCons_cons, asNil_nil, asFlt_flt, asRef_ref, asWhole_whole, asView_view, asWv_whole, asWv_view, asFn_fn, asPref_pref, asOCons_cons, asONil_nil, asBox_box, asMade_made, asGone_dead, asGone_made, asCI_cons, asCB_cons, asCF_cons, asCS_psl, asCS_nil, asCW_cons, asCR_cons, asOM_cons, asOM_false, asOB_cons, asOB_false, asOG_dead, asOG_made, gS_mk, bind_some', onEx_exit, onEx_ret]
    have l1 : ∀ o : List Img, o.length ≤ 1000000 → (List.length (o.map Img.r) + List.length ([[(.int .i64 a.1), (.psl false (a.2.map cB))]] : List (List PV))) * 32 ≤ 140737488355328 := fun o ho => by simp; omega
    have l2 : (List.length (out.map Img.r) + List.length ([[(.int .i64 m.1), (.psl false (m.2.map cB))]] : List (List PV))) * 32 ≤ 140737488355328 := by simp; omega
    have m1 : ∀ o : List Img, o.map Img.r ++ ([[(.int .i64 a.1), (.psl false (a.2.map cB))]] : List (List PV)) = (o ++ [a]).map Img.r := fun o => by rw [List.map_append]; rfl
    have m2 : out.map Img.r ++ ([[(.int .i64 m.1), (.psl false (m.2.map cB))]] : List (List PV)) = (out ++ [m]).map Img.r := by rw [List.map_append]; rfl
    cases put with
    | true =>
      rw [if_neg (by simp)]
      unfold refIn
      by_cases c : a.1 = m.1
      · rw [if_neg (by simpa using c), if_neg (by simpa using c), wrap_succ (by omega)]
        exact ih true out (by omega) (by omega)
      · rw [if_pos (by simpa using c), if_pos c, if_pos (l1 out (by omega)), wrap_succ (by omega), m1]
        exact ih true (out ++ [a]) (by omega) (by simp; omega)
    | false =>
      rw [if_pos (by simp)]
      unfold refIn
      by_cases d : m.1 ≤ a.1
      · rw [if_pos (by rw [decide_eq_true_eq]; exact d), if_pos d, if_pos l2]
        by_cases c : a.1 = m.1
        · rw [if_neg (by simpa using c), if_neg (by simpa using c), wrap_succ (by omega), m2]
          exact ih true (out ++ [m]) (by omega) (by simp; omega)
        · rw [if_pos (by simpa using c), if_pos c, m2, if_pos (l1 _ (by simp; omega)), wrap_succ (by omega), m1]
          exact ih true (out ++ [m] ++ [a]) (by omega) (by simp; omega)
      · rw [if_neg (by rw [decide_eq_true_eq]; exact d), if_neg d]
        by_cases c : a.1 = m.1
        · rw [if_neg (by simpa using c), if_neg (by simpa using c), wrap_succ (by omega)]
          exact ih false out (by omega) (by omega)
        · rw [if_pos (by simpa using c), if_pos c, if_pos (l1 out (by omega)), wrap_succ (by omega), m1]
          exact ih false (out ++ [a]) (by omega) (by simp; omega)
theorem lpRApply (g : List Img) : ∀ (k i : Nat) (pages : List Img), i + k = g.length → g.length ≤ 100000 → Up pages → pages.length + k ≤ 100000 →
    Lω 21 lcK21_2 0 (stK21_2 (pages.map Img.r) (g.map Img.r) (i : Nat)) [] = some (.exit 0, mkS 73 [(0, .psl false ((appI (g.drop i) pages).map Img.r))], [])
  | 0, i, pages, hi, hl, hu, hb => by
    refine lw ?_
    rw [lqK21_2, if_neg (by rw [decide_eq_true_eq, List.length_map]; omega), List.drop_of_length_le (by omega)]
    rfl
  | k + 1, i, pages, hi, hl, hu, hb => by
    have hil : i < g.length := by omega
    have hg := List.getElem?_eq_getElem hil
    rw [List.drop_eq_getElem_cons hil]
    generalize g[i] = m at hg
    have lp := lpRIn pages g hg (by omega) pages.length 0 false [] (by omega) (by simp; omega)
    rw [natz, List.drop_zero, List.map_nil] at lp
    have ho := refOne_eq (m := m) hu
    unfold refOne at ho
    have hlen := refIn_len m pages false []
    have hp := putI_len m pages
    have ih := lpRApply g k (i + 1) (putI m pages) (by omega) hl (putI_up hu) (by omega)
    refine lw ?_
    rw [lqK21_2, if_pos (by rw [decide_eq_true_eq, List.length_map]; omega), lp]
    simp only [asInt_int, asBool_bool, asStr_str, asSl_psl, asSl_nil, asAgg_agg, asTup_tup, asCons_cons, asNil_nil, asFlt_flt, asRef_ref, asWhole_whole, asView_view, asWv_whole, asWv_view, asFn_fn, asPref_pref, asOCons_cons, asONil_nil, asBox_box, asMade_made, asGone_dead, asGone_made, asCI_cons, asCB_cons, asCF_cons, asCS_psl, asCS_nil, asCW_cons, asCR_cons, asOM_cons, asOM_false, asOB_cons, asOB_false, asOG_dead, asOG_made, gS_mk, bind_some', onEx_exit, onEx_ret, mkS_hit, mkS_miss, ne_eq, not_false_eq_true, Nat.reduceLT, Nat.reduceEqDiff, if_true]
    show _ = some (Ex.exit 0, mkS 73 [(0, PV.psl false ((appI (g.drop (i + 1)) (putI m pages)).map Img.r))], [])
    simp only [if_neg (show ¬ (false = true) by decide), List.length_nil, Nat.zero_add] at hlen
    generalize refIn m pages false [] = r at ho hlen
    obtain ⟨b, o⟩ := r
    simp only at ho hlen
    cases b with
    | true =>
      rw [if_pos rfl] at ho
      subst ho
      simp only [Bool.not_true, Bool.false_eq_true, if_false, wrap_succ (show i < 4611686018427387904 by omega)]
      exact ih
    | false =>
      rw [if_neg (by decide)] at ho
      rw [← ho] at ih ⊢
      simp only [Bool.not_false, if_true]
      rw [if_pos (nn _), Int.toNat_natCast, mapGet hg]
      rw [List.map_append] at ih
      simp only [Img.r, asInt_int, asBool_bool, asStr_str, asSl_psl, asSl_nil, asAgg_agg, asTup_tup, asCons_cons, asNil_nil, asFlt_flt, asRef_ref, asWhole_whole, asView_view, asWv_whole, asWv_view, asFn_fn, asPref_pref, asOCons_cons, asONil_nil, asBox_box, asMade_made, asGone_dead, asGone_made, asCI_cons, asCB_cons, asCF_cons, asCS_psl, asCS_nil, asCW_cons, asCR_cons, asOM_cons, asOM_false, asOB_cons, asOB_false, asOG_dead, asOG_made, gS_mk, bind_some', onEx_exit, onEx_ret, List.map_cons, List.map_nil] at ih ⊢
      rw [if_pos (by simp; omega), wrap_succ (by omega)]
      exact ih
theorem spRApply (p g : List Img) (hu : Up p) (hl : p.length + g.length ≤ 1000) : pcall Cω 21 [.psl false (p.map Img.r), .psl false (g.map Img.r)] = some (.psl false ((appI g p).map Img.r)) := by
  have ev := eqK21 Cω Lω (p.map Img.r) (g.map Img.r)
  have lp := lpRApply g g.length 0 p (by omega) (by omega) hu (by omega)
  rw [natz, List.drop_zero] at lp
  rw [lp] at ev
  simp only [asInt_int, asBool_bool, asStr_str, asSl_psl, asSl_nil, asAgg_agg, asTup_tup, asCons_cons, asNil_nil, asFlt_flt, asRef_ref, asWhole_whole, asView_view, asWv_whole, asWv_view, asFn_fn, asPref_pref, asOCons_cons, asONil_nil, asBox_box, asMade_made, asGone_dead, asGone_made, asCI_cons, asCB_cons, asCF_cons, asCS_psl, asCS_nil, asCW_cons, asCR_cons, asOM_cons, asOM_false, asOB_cons, asOB_false, asOG_dead, asOG_made, gS_mk, bind_some', onEx_exit, onEx_ret, mkS_hit, mkS_miss, ne_eq, not_false_eq_true, Nat.reduceLT, Nat.reduceEqDiff, if_true] at ev
  exact pc ev rfl
end Go.Pvm.S
