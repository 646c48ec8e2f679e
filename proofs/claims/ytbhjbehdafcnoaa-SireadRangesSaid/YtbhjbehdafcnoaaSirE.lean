/- Part of the proof: locks: one more, the program's and the document's. -/
import Derived.Test.YtbhjbehdafcnoaaSirD
set_option linter.unusedSimpArgs false
set_option linter.unusedVariables false
set_option maxRecDepth 100000
namespace Go.Pvm.S
open Go.Pvm Go.Proofs
theorem rm32 {n : Nat} (h : n < 4294967295) : (n + 1) * 32 ≤ 140737488355328 := by omega
theorem rm32b {n : Nat} (h : n < 4294967295) : (n + 1 + 1) * 32 ≤ 140737488355328 := by omega
theorem binL_at (l : List Lk) (x : Lk) (hl : l.length < 1073741824) (hs : Srt l) : ∃ b : Bool, pcall Cω 69 [.psl false (l.map Lk.e), .agg [.int .i64 x.t, .int .i64 x.k, .float .f64 x.q.toNat, .int .i64 x.p], .func 31 []] = some (.tuple [.int .i64 (ahdL l x : Nat), .bool b]) := by
  obtain ⟨p1, p2⟩ := ahdL_spec hs x
  exact ⟨_, bfL_sp l x hl (ahdL l x) p1 p2⟩
theorem spPut (l : List Lk) (x : Lk) (hl : l.length < 1000000) (hg : Good l) (hx : okL x = true) : Cω 52 [whole 0 4, .agg x.e] [.made true 4 (l.map Lk.e)] = some (whole 1 4, [.dead, .made true 4 ((putL l x).map Lk.e)]) := by
  have ev := eqK52 Cω Lω x.t x.k x.q.toNat x.p (l.map Lk.e)
  have hc := spCont l x (by omega)
  have hd := delP_sp l x (by omega)
  simp only [Lk.e] at hc
  rw [hc] at ev
  simp only [asInt_int, asBool_bool, asStr_str, asSl_psl, asSl_nil, asAgg_agg, asTup_tup, asCons_cons, asNil_nil, asFlt_flt, asRef_ref, asWhole_whole, asView_view, asWv_whole, asWv_view, asFn_fn, asPref_pref, asOCons_cons, asONil_nil, asBox_box, asMade_made, asGone_dead, asGone_made, bind_some', onEx_exit, onEx_ret] at ev
  unfold putL
  by_cases h : (l.any fun a => covL a x) = true
  · rw [if_pos h] at ev ⊢
    exact cw ev
  · rw [if_neg h, hd] at ev
    rw [if_neg h]
    have hfl := List.length_filter_le (fun a => !covL x a) l
    have hfs : Srt (l.filter fun a => !covL x a) := hg.srt.filter _
    have htot : ∀ a ∈ l.filter (fun a => !covL x a), ordL x a < 0 ∨ ordL a x < 0 := fun a ha => tot_of hg.ok hx h a (List.mem_filter.1 ha).1
    obtain ⟨bb, hb⟩ := binL_at (l.filter fun a => !covL x a) x (by omega) hfs
    obtain ⟨p1, _⟩ := ahdL_spec hfs x
    have hins := insL_eq hfs htot
    have hm : ∀ (m : List Lk) (p : Nat), (m.map Lk.e).take p ++ ([[.int .i64 x.t, .int .i64 x.k, .float .f64 x.q.toNat, .int .i64 x.p]] : List (List PV)) ++ (m.map Lk.e).drop p = (m.take p ++ x :: m.drop p).map Lk.e := fun m p => by
      rw [List.map_append, List.map_cons, List.map_take, List.map_drop, List.append_assoc]; rfl
    have r1 : ((l.filter fun a => !covL x a).length + ([[.int .i64 x.t, .int .i64 x.k, .float .f64 x.q.toNat, .int .i64 x.p]] : List (List PV)).length) * 32 ≤ 140737488355328 := rm32 (by omega)
    have r2 : (l.length + ([[.int .i64 x.t, .int .i64 x.k, .float .f64 x.q.toNat, .int .i64 x.p]] : List (List PV)).length) * 32 ≤ 140737488355328 := rm32 (by omega)
    unfold delP_res at ev
    by_cases ha : (l.any fun a => covL x a) = true
    · rw [if_pos ha] at ev
      simp only [asInt_int, asBool_bool, asStr_str, asSl_psl, asSl_nil, asAgg_agg, asTup_tup, asCons_cons, asNil_nil, asFlt_flt, asRef_ref, asWhole_whole, asView_view, asWv_whole, asWv_view, asFn_fn, asPref_pref, asOCons_cons, asONil_nil, asBox_box, asMade_made, asGone_dead, asGone_made, bind_some', onEx_exit, onEx_ret, List.drop_zero] at ev
      rw [List.take_append_of_le_length (by rw [List.length_map]; exact Nat.le_refl _), List.take_of_length_le (by rw [List.length_map]; exact Nat.le_refl _), hb] at ev
      simp only [asInt_int, asBool_bool, asStr_str, asSl_psl, asSl_nil, asAgg_agg, asTup_tup, asCons_cons, asNil_nil, asFlt_flt, asRef_ref, asWhole_whole, asView_view, asWv_whole, asWv_view, asFn_fn, asPref_pref, asOCons_cons, asONil_nil, asBox_box, asMade_made, asGone_dead, asGone_made, bind_some', onEx_exit, onEx_ret, Int.toNat_natCast] at ev
      rw [if_pos ⟨trivial, by rw [List.length_append, List.length_map]; omega, nn _, p1⟩, if_pos r1, hm, hins] at ev
      exact cw ev
    · rw [if_neg ha] at ev
      have hf : l.filter (fun a => !covL x a) = l := List.filter_eq_self.2 fun a hm => by
        have h' : l.any (fun a => covL x a) = false := by simpa using ha
        have := List.any_eq_false.1 h' a hm
        simpa using this
      rw [hf] at hb p1 hins ⊢
      simp only [asInt_int, asBool_bool, asStr_str, asSl_psl, asSl_nil, asAgg_agg, asTup_tup, asCons_cons, asNil_nil, asFlt_flt, asRef_ref, asWhole_whole, asView_view, asWv_whole, asWv_view, asFn_fn, asPref_pref, asOCons_cons, asONil_nil, asBox_box, asMade_made, asGone_dead, asGone_made, bind_some', onEx_exit, onEx_ret] at ev
      rw [hb] at ev
      simp only [asInt_int, asBool_bool, asStr_str, asSl_psl, asSl_nil, asAgg_agg, asTup_tup, asCons_cons, asNil_nil, asFlt_flt, asRef_ref, asWhole_whole, asView_view, asWv_whole, asWv_view, asFn_fn, asPref_pref, asOCons_cons, asONil_nil, asBox_box, asMade_made, asGone_dead, asGone_made, bind_some', onEx_exit, onEx_ret, Int.toNat_natCast, List.length_map] at ev
      rw [if_pos ⟨nn _, p1⟩, if_pos r2, hm, hins] at ev
      exact cw ev
/-! ### The document's -/
theorem runL_or {α S : Type} {p : α → Bool} {g : Nat → α → S → S} {R : Out} {fin : S → Out} : ∀ (l : List α) (i : Nat) (s : S), runL (fun i a s => if p a = true then .out R else .on (g i a s)) fin l i s = if l.any p = true then R else fin (foldI g l i s)
  | [], i, s => rfl
  | a :: l, i, s => by
    unfold runL foldI
    rw [List.any_cons]
    by_cases h : p a = true
    · simp only [h, if_true, Bool.true_or]
    · have h' : p a = false := by simpa using h
      simp only [h', Bool.false_eq_true, if_false, Bool.false_or]
      exact runL_or l (i + 1) _
theorem foldI_cons {α S : Type} (g : Nat → α → S → S) (a : α) (l : List α) (i : Nat) (s : S) : foldI g (a :: l) i s = foldI g l (i + 1) (g i a s) := rfl
theorem foldI_skip {α S : Type} {p : α → Bool} {g : α → S → S} : ∀ (l : List α) (i j : Nat) (s : S), foldI (fun _ a s => if p a = true then s else g a s) l i s = foldI (fun _ a s => g a s) (l.filter fun a => !p a) j s
  | [], i, j, s => rfl
  | a :: l, i, j, s => by
    by_cases h : p a = true
    · rw [List.filter_cons_of_neg (by simp [h]), foldI_cons, if_pos h]
      exact foldI_skip l (i + 1) j s
    · rw [List.filter_cons_of_pos (by simp [h]), foldI_cons, foldI_cons, if_neg h]
      exact foldI_skip l (i + 1) (j + 1) _
def insG' (x a : Lk) (s : Bool × List Lk) : Bool × List Lk := if (!s.1 && bfO x a) = true then (true, s.2 ++ [x] ++ [a]) else (s.1, s.2 ++ [a])
def rpG (x : Lk) : Nat → Lk → Bool × List Lk → Bool × List Lk := fun _ a s => if covL x a = true then s else insG' x a s
theorem rpG_len (x : Lk) (i : Nat) (a : Lk) (s : Bool × List Lk) (h : s.2.length ≤ 2 * i) : (rpG x i a s).2.length ≤ 2 * (i + 1) := by
  unfold rpG insG'
  split
  · omega
  · split
    · simp only [List.length_append, List.length_cons, List.length_nil]; omega
    · simp only [List.length_append, List.length_cons, List.length_nil]; omega
theorem spRput (l : List Lk) (x : Lk) (hl : l.length < 1000000) (hg : ∀ a ∈ l, okL a = true) (hx : okL x = true) : pcall Cω 61 [.psl false (l.map Lk.e), .agg x.e] = some (.psl false ((putL l x).map Lk.e)) := by
  have ev := eqK61 Cω Lω (l.map Lk.e) x.t x.k x.q.toNat x.p
  have lp : Lω 61 lcK61_4 0 (stK61_4 (l.map Lk.e) false 0) [.box true 46 [.int .i64 x.t, .int .i64 x.k, .float .f64 x.q.toNat, .int .i64 x.p], .made true 4 []] = _ :=
    loopL (fun i (s : Bool × List Lk) => stK61_4 (l.map Lk.e) s.1 (i : Nat)) (fun _ s => [.box true 46 [.int .i64 x.t, .int .i64 x.k, .float .f64 x.q.toNat, .int .i64 x.p], .made true 4 (s.2.map Lk.e)]) l
      (fun i a s => if covL a x = true then .out (.ret, mkS 56 [(4, .psl false (l.map Lk.e))], []) else .on (rpG x i a s))
      (fun s => (.exit 0, mkS 56 [(3, .ref 0 0 0), (5, whole 1 4), (6, .bool s.1)], [.box true 46 [.int .i64 x.t, .int .i64 x.k, .float .f64 x.q.toNat, .int .i64 x.p], .made true 4 (s.2.map Lk.e)]))
      (fun i s => s.2.length ≤ 2 * i) (fun i a s hg' hi hs => by
        have ham := List.mem_iff_getElem?.2 ⟨i, hg'⟩
        have hdi : decide (((i : Nat) : Int) < (((l.map Lk.e).length : Nat) : Int)) = true := by rw [decide_eq_true_eq, List.length_map]; omega
        have h1 := spRCovers a x
        have h2 := spRCovers x a
        have h3 := spLessL x a
        rw [cov_eq (okL_kind (hg a ham))] at h1
        rw [cov_eq (okL_kind hx)] at h2
        simp only [Lk.e] at h1 h2 h3
        have step := lqK61_4 Cω Lω (l.map Lk.e) s.1 (i : Nat) x.t x.k x.q.toNat x.p (s.2.map Lk.e)
        have hs9 : s.2.length < 4294967295 := by omega
        have b1 : ((s.2.map Lk.e).length + ([[.int .i64 a.t, .int .i64 a.k, .float .f64 a.q.toNat, .int .i64 a.p]] : List (List PV)).length) * 32 ≤ 140737488355328 := by rw [List.length_map]; exact rm32 hs9
        have b2 : ((s.2.map Lk.e).length + ([[.int .i64 x.t, .int .i64 x.k, .float .f64 x.q.toNat, .int .i64 x.p]] : List (List PV)).length) * 32 ≤ 140737488355328 := by rw [List.length_map]; exact rm32 hs9
        have b3 : ((s.2.map Lk.e ++ ([[.int .i64 x.t, .int .i64 x.k, .float .f64 x.q.toNat, .int .i64 x.p]] : List (List PV))).length + ([[.int .i64 a.t, .int .i64 a.k, .float .f64 a.q.toNat, .int .i64 a.p]] : List (List PV)).length) * 32 ≤ 140737488355328 := by rw [List.length_append, List.length_map]; exact rm32b hs9
        have m1 : s.2.map Lk.e ++ ([[.int .i64 a.t, .int .i64 a.k, .float .f64 a.q.toNat, .int .i64 a.p]] : List (List PV)) = (s.2 ++ [a]).map Lk.e := map_app1 (f := Lk.e) s.2 a
        have m2 : s.2.map Lk.e ++ ([[.int .i64 x.t, .int .i64 x.k, .float .f64 x.q.toNat, .int .i64 x.p]] : List (List PV)) ++ ([[.int .i64 a.t, .int .i64 a.k, .float .f64 a.q.toNat, .int .i64 a.p]] : List (List PV)) = (s.2 ++ [x] ++ [a]).map Lk.e := (congrArg (fun z => z ++ [Lk.e a]) (map_app1 (f := Lk.e) s.2 x)).trans (map_app1 (f := Lk.e) (s.2 ++ [x]) a)
        simp only [hdi, nn, Int.toNat_natCast, bind_some', mapGet hg', Lk.e, asInt_int, asBool_bool, asStr_str, asSl_psl, asSl_nil, asAgg_agg, asTup_tup, asCons_cons, asNil_nil, asFlt_flt, asRef_ref, asWhole_whole, asView_view, asWv_whole, asWv_view, asFn_fn, asPref_pref, asOCons_cons, asONil_nil, asBox_box, asMade_made, asGone_dead, asGone_made, bind_some', onEx_exit, onEx_ret, wrap_succ (show i < 4611686018427387904 by omega), h1, h2, h3, if_true] at step
        simp only [b1, b2, b3, if_true] at step
        simp only [m1, m2] at step
        by_cases c1 : covL a x = true
        · simp only [c1, if_true] at step ⊢
          exact step
        · have c1' : covL a x = false := by simpa using c1
          simp only [c1', Bool.false_eq_true, if_false] at step ⊢
          refine ⟨rpG_len x i a s hs, step.trans ?_⟩
          unfold rpG insG' bfO
          obtain ⟨dn, out⟩ := s
          cases covL x a <;> cases dn <;> cases decide (ordL x a < 0) <;> rfl) (fun s hs => by
        rw [lqK61_4]; simp only [List.length_map, Int.lt_irrefl, decide_false, Bool.false_eq_true, if_false]) (false, []) (Nat.le_refl _)
  rw [runL_or] at lp
  rw [lp] at ev
  unfold putL
  by_cases h : (l.any fun a => covL a x) = true
  · rw [if_pos h] at ev ⊢
    simp only [asInt_int, asBool_bool, asStr_str, asSl_psl, asSl_nil, asAgg_agg, asTup_tup, asCons_cons, asNil_nil, asFlt_flt, asRef_ref, asWhole_whole, asView_view, asWv_whole, asWv_view, asFn_fn, asPref_pref, asOCons_cons, asONil_nil, asBox_box, asMade_made, asGone_dead, asGone_made, bind_some', onEx_exit, onEx_ret, mkS_hit, mkS_miss, ne_eq, not_false_eq_true, Nat.reduceLT, Nat.reduceEqDiff] at ev
    exact pc ev rfl
  · rw [if_neg h] at ev ⊢
    have hi := foldI_ins (bf := bfO x) (x := x) (l.filter fun a => !covL x a) 0 []
    have hsk : foldI (rpG x) l 0 (false, []) = foldI (insG (bfO x) x) (l.filter fun a => !covL x a) 0 (false, []) := foldI_skip (p := fun a => covL x a) (g := insG' x) l 0 0 (false, [])
    have hb := foldI_inv (g := rpG x) (fun i s => s.2.length ≤ 2 * i) l 0 (false, []) (Nat.le_refl _) (fun j a s hs => rpG_len x j a s hs)
    rw [← hsk, List.nil_append] at hi
    simp only [asInt_int, asBool_bool, asStr_str, asSl_psl, asSl_nil, asAgg_agg, asTup_tup, asCons_cons, asNil_nil, asFlt_flt, asRef_ref, asWhole_whole, asView_view, asWv_whole, asWv_view, asFn_fn, asPref_pref, asOCons_cons, asONil_nil, asBox_box, asMade_made, asGone_dead, asGone_made, bind_some', onEx_exit, onEx_ret, mkS_hit, mkS_miss, ne_eq, not_false_eq_true, Nat.reduceLT, Nat.reduceEqDiff, if_true, if_false] at ev
    rw [← hi]
    cases hq : foldI (rpG x) l 0 (false, []) with
    | mk dn out =>
      rw [hq] at ev hb
      simp only at ev hb
      cases dn with
      | true =>
        simp only [Bool.not_true, Bool.false_eq_true, if_false, if_true] at ev ⊢
        exact pc ev rfl
      | false =>
        simp only [Bool.not_false, Bool.false_eq_true, if_false, if_true] at ev ⊢
        rw [if_pos (by rw [List.length_map]; exact rm32 (by omega))] at ev
        rw [List.map_append]
        exact pc ev rfl
end Go.Pvm.S
