/- Part of the proof: the document's device over values alone: what each call does. -/
import Derived.Test.YtgcfmhlgbakdfaaDraA
set_option linter.unusedSimpArgs false
set_option linter.unusedVariables false
set_option maxRecDepth 100000
namespace Go.Pvm.S
open Go.Pvm Go.Proofs
/-- A part that is done. -/
theorem spDo {r : Rf} {u : Pt} (h : Fit r.now u) (hd : r.done.length ≤ 1000000) (ha : r.armed ≤ 9223372036854775807) (hs : 0 ≤ u.size) : pcall Cω 35 [.agg r.e, .agg u.e] = some (.agg (r.act u).e) := by
  have ev := eqK35 Cω Lω (r.kept.pg.map cB) r.kept.base (r.kept.st.map cB) (r.now.pg.map cB) r.now.base (r.now.st.map cB) (r.done.map Pt.e) r.gone r.armed u.at_ (u.b.map cB) u.trim u.to
  have h1 := spRTurn h
  have h2 := spSize u
  have h3 := fun n => spFirst u n
  have hf : ∀ n, (u.first n).1.e = [.int .i64 (u.first n).1.at_, .psl false ((u.first n).1.b.map cB), .bool (u.first n).1.trim, .int .i64 (u.first n).1.to] := fun _ => rfl
  have hp : (r.now.part u).e = [.psl false ((r.now.part u).pg.map cB), .int .i64 (r.now.part u).base, .psl false ((r.now.part u).st.map cB)] := rfl
  have hu : u.e = [.int .i64 u.at_, .psl false (u.b.map cB), .bool u.trim, .int .i64 u.to] := rfl
  have hx : r.now.e = [.psl false (r.now.pg.map cB), .int .i64 r.now.base, .psl false (r.now.st.map cB)] := rfl
  rw [hu] at h1 h2 h3
  rw [hx, hp] at h1
  have hl : ∀ x : Pt, [] ++ r.done.map Pt.e ++ [[.int .i64 x.at_, .psl false (x.b.map cB), .bool x.trim, .int .i64 x.to]] = (r.done ++ [x]).map Pt.e := fun x => by rw [List.map_append]; rfl
  have c1 : ((([] : List (List PV)).length + (r.done.map Pt.e).length) * 48 ≤ 140737488355328) := by rw [List.length_map, List.length_nil]; omega
  have c2 : ∀ x : List PV, ((([] ++ r.done.map Pt.e).length + [x].length) * 48 ≤ 140737488355328) := fun x => by rw [List.nil_append, List.length_map, List.length_singleton]; omega
  rw [h1] at ev
  simp only [asInt_int, asBool_bool, asStr_str, asSl_psl, asSl_nil, asAgg_agg, asTup_tup, asCons_cons, asNil_nil, asFlt_flt, asRef_ref, asWhole_whole, asView_view, asWv_whole, asWv_view, asFn_fn, asPref_pref, asOCons_cons, asONil_nil, asBox_box, asMade_made, asGone_dead, asGone_made, asCI_cons, asCB_cons, asCF_cons, asCS_psl, asCS_nil, asCW_cons, asCR_cons, asOM_cons, asOM_false, asOB_cons, asOB_false, asOG_dead, asOG_made, gS_mk, bind_some', onEx_exit, onEx_ret] at ev
  unfold Rf.act
  cases hg : r.gone with
  | true =>
    rw [hg] at ev
    rw [if_pos rfl] at ev
    rw [if_pos rfl]
    exact pc (by rw [Rf.e, hg]; exact ev) rfl
  | false =>
    rw [hg] at ev
    rw [if_neg (by decide), h2] at ev
    rw [if_neg (by decide)]
    simp only [asInt_int, asBool_bool, asStr_str, asSl_psl, asSl_nil, asAgg_agg, asTup_tup, asCons_cons, asNil_nil, asFlt_flt, asRef_ref, asWhole_whole, asView_view, asWv_whole, asWv_view, asFn_fn, asPref_pref, asOCons_cons, asONil_nil, asBox_box, asMade_made, asGone_dead, asGone_made, asCI_cons, asCB_cons, asCF_cons, asCS_psl, asCS_nil, asCW_cons, asCR_cons, asOM_cons, asOM_false, asOB_cons, asOB_false, asOG_dead, asOG_made, gS_mk, bind_some', onEx_exit, onEx_ret] at ev
    by_cases ca : 0 ≤ r.armed
    · rw [if_pos (decide_eq_true (show r.armed ≥ 0 from ca))] at ev
      by_cases cb : u.size > r.armed
      · rw [if_pos (decide_eq_true cb), h3, hf] at ev
        rw [if_pos ⟨ca, cb⟩]
        simp only [asInt_int, asBool_bool, asStr_str, asSl_psl, asSl_nil, asAgg_agg, asTup_tup, asCons_cons, asNil_nil, asFlt_flt, asRef_ref, asWhole_whole, asView_view, asWv_whole, asWv_view, asFn_fn, asPref_pref, asOCons_cons, asONil_nil, asBox_box, asMade_made, asGone_dead, asGone_made, asCI_cons, asCB_cons, asCF_cons, asCS_psl, asCS_nil, asCW_cons, asCR_cons, asOM_cons, asOM_false, asOB_cons, asOB_false, asOG_dead, asOG_made, gS_mk, bind_some', onEx_exit, onEx_ret] at ev
        have w0 : IntKind.wrap .i64 (r.armed - r.armed) = 0 := by rw [Int.sub_self]; rfl
        cases hq : (u.first r.armed).2 with
        | true =>
          rw [hq] at ev
          rw [if_pos rfl, pPl, if_neg (by decide), if_pos c1, if_pos (c2 _), if_pos (decide_eq_true (show r.armed ≥ 0 from ca)), hl, w0] at ev
          rw [if_pos rfl]
          exact pc (by rw [Rf.e, hg]; exact ev) rfl
        | false =>
          rw [hq] at ev
          rw [if_neg (by decide), if_pos (decide_eq_true (show r.armed ≥ 0 from ca)), w0] at ev
          rw [if_neg (by decide)]
          exact pc (by rw [Rf.e, hg]; exact ev) rfl
      · rw [if_neg (by simpa using cb), h3, hf] at ev
        rw [if_neg (fun e => cb e.2), if_pos ca]
        simp only [asInt_int, asBool_bool, asStr_str, asSl_psl, asSl_nil, asAgg_agg, asTup_tup, asCons_cons, asNil_nil, asFlt_flt, asRef_ref, asWhole_whole, asView_view, asWv_whole, asWv_view, asFn_fn, asPref_pref, asOCons_cons, asONil_nil, asBox_box, asMade_made, asGone_dead, asGone_made, asCI_cons, asCB_cons, asCF_cons, asCS_psl, asCS_nil, asCW_cons, asCR_cons, asOM_cons, asOM_false, asOB_cons, asOB_false, asOG_dead, asOG_made, gS_mk, bind_some', onEx_exit, onEx_ret] at ev
        have w0 : IntKind.wrap .i64 (r.armed - u.size) = r.armed - u.size := wrap_i64 (by omega) (by omega)
        cases hq : (u.first u.size).2 with
        | true =>
          rw [hq] at ev
          rw [if_pos rfl, pPl, if_neg (by decide), if_pos c1, if_pos (c2 _), if_pos (decide_eq_true (show r.armed ≥ 0 from ca)), hl, w0] at ev
          rw [if_pos rfl]
          exact pc (by rw [Rf.e, hg]; exact ev) rfl
        | false =>
          rw [hq] at ev
          rw [if_neg (by decide), if_pos (decide_eq_true (show r.armed ≥ 0 from ca)), w0] at ev
          rw [if_neg (by decide)]
          exact pc (by rw [Rf.e, hg]; exact ev) rfl
    · rw [if_neg (by simpa using ca), h3, hf] at ev
      rw [if_neg (fun e => ca e.1), if_neg ca]
      simp only [asInt_int, asBool_bool, asStr_str, asSl_psl, asSl_nil, asAgg_agg, asTup_tup, asCons_cons, asNil_nil, asFlt_flt, asRef_ref, asWhole_whole, asView_view, asWv_whole, asWv_view, asFn_fn, asPref_pref, asOCons_cons, asONil_nil, asBox_box, asMade_made, asGone_dead, asGone_made, asCI_cons, asCB_cons, asCF_cons, asCS_psl, asCS_nil, asCW_cons, asCR_cons, asOM_cons, asOM_false, asOB_cons, asOB_false, asOG_dead, asOG_made, gS_mk, bind_some', onEx_exit, onEx_ret] at ev
      cases hq : (u.first u.size).2 with
      | true =>
        rw [hq] at ev
        rw [if_pos rfl, pPl, if_neg (by decide), if_pos c1, if_pos (c2 _), if_neg (by simpa using ca), hl] at ev
        rw [if_pos rfl]
        exact pc (by rw [Rf.e, hg]; exact ev) rfl
      | false =>
        rw [hq] at ev
        rw [if_neg (by decide), if_neg (by simpa using ca)] at ev
        rw [if_neg (by decide)]
        exact pc (by rw [Rf.e, hg]; exact ev) rfl
theorem spSeen (r : Rf) : pcall Cω 39 [.agg r.e] = some (.agg r.now.e) := pc (eqK39 Cω Lω (r.kept.pg.map cB) r.kept.base (r.kept.st.map cB) (r.now.pg.map cB) r.now.base (r.now.st.map cB) (r.done.map Pt.e) r.gone r.armed) rfl
theorem spRSync (r : Rf) : pcall Cω 26 [.agg r.e] = some (.agg r.sync.e) := by
  have ev := eqK26 Cω Lω (r.kept.pg.map cB) r.kept.base (r.kept.st.map cB) (r.now.pg.map cB) r.now.base (r.now.st.map cB) (r.done.map Pt.e) r.gone r.armed
  unfold Rf.sync
  cases hg : r.gone with
  | true =>
    rw [hg, if_pos rfl] at ev
    rw [if_pos rfl]
    exact pc (by rw [Rf.e, hg]; exact ev) (by rw [Rf.e, hg]; rfl)
  | false =>
    rw [hg, if_neg (by decide)] at ev
    rw [if_neg (by decide)]
    exact pc (by rw [Rf.e, hg]; exact ev) rfl
theorem spRArm (r : Rf) (n : Int) : pcall Cω 27 [.agg r.e, .int .i64 n] = some (.agg (r.arm n).e) := by
  have ev := eqK27 Cω Lω (r.kept.pg.map cB) r.kept.base (r.kept.st.map cB) (r.now.pg.map cB) r.now.base (r.now.st.map cB) (r.done.map Pt.e) r.gone r.armed n
  unfold Rf.arm
  cases hg : r.gone with
  | true =>
    rw [hg, if_pos rfl] at ev
    rw [if_pos rfl]
    exact pc (by rw [Rf.e, hg]; exact ev) (by rw [Rf.e, hg]; rfl)
  | false =>
    rw [hg, if_neg (by decide)] at ev
    rw [if_neg (by decide)]
    by_cases c : n < 0
    · rw [if_pos (decide_eq_true c)] at ev
      rw [if_pos c]
      exact pc (by rw [Rf.e, hg]; exact ev) (by rw [Rf.e]; simp only [hg]; rfl)
    · rw [if_neg (by simpa using c)] at ev
      rw [if_neg c]
      exact pc (by rw [Rf.e, hg]; exact ev) (by rw [Rf.e]; simp only [hg]; rfl)
theorem spRAppend {r : Rf} {b : By} (hd : r.done.length ≤ 1000000) (ha : r.armed ≤ 9223372036854775807) (hs : r.now.st.length ≤ 65536) (hb : b.length < 4611686018427387904) :
    pcall Cω 24 [.agg r.e, bv b] = some (.tuple [.agg (if b.length + r.now.st.length ≤ 65536 then r.act ⟨-1, b, false, 0⟩ else r).e, .int .i64 (if b.length + r.now.st.length ≤ 65536 then 0 else 10)]) := by
  have ev := eqK24 Cω Lω (r.kept.pg.map cB) r.kept.base (r.kept.st.map cB) (r.now.pg.map cB) r.now.base (r.now.st.map cB) (r.done.map Pt.e) r.gone r.armed (b.map cB)
  rw [List.length_map, List.length_map, wrap_i64 (by omega) (by omega)] at ev
  by_cases c : b.length + r.now.st.length ≤ 65536
  · have hD := spDo (r := r) (u := ⟨-1, b, false, 0⟩) ⟨fun h => absurd h (show ¬ (0 : Int) ≤ -1 by decide), fun _ h => by (cases h), fun _ _ => ⟨by omega, by show b.length ≤ _; omega⟩⟩ hd ha (by unfold Pt.size; rw [if_pos ⟨show (-1 : Int) < 0 by decide, rfl⟩]; exact Int.natCast_nonneg _)
    rw [if_neg (by rw [decide_eq_true_eq]; omega)] at ev
    rw [if_pos c, if_pos c]
    have hD' : pcall Cω 35 [.agg [bv r.kept.pg, .int .i64 r.kept.base, bv r.kept.st, bv r.now.pg, .int .i64 r.now.base, bv r.now.st, .psl false (r.done.map Pt.e), .bool r.gone, .int .i64 r.armed], .agg [.int .i64 (-1), bv b, .bool false, .int .i64 0]] = _ := hD
    unfold bv at hD'
    rw [hD'] at ev
    generalize r.act ⟨-1, b, false, 0⟩ = r' at ev
    unfold Rf.e bv at ev
    simp only [asInt_int, asBool_bool, asStr_str, asSl_psl, asSl_nil, asAgg_agg, asTup_tup, asCons_cons, asNil_nil, asFlt_flt, asRef_ref, asWhole_whole, asView_view, asWv_whole, asWv_view, asFn_fn, asPref_pref, asOCons_cons, asONil_nil, asBox_box, asMade_made, asGone_dead, asGone_made, asCI_cons, asCB_cons, asCF_cons, asCS_psl, asCS_nil, asCW_cons, asCR_cons, asOM_cons, asOM_false, asOB_cons, asOB_false, asOG_dead, asOG_made, gS_mk, bind_some', onEx_exit, onEx_ret] at ev
    exact pc ev rfl
  · rw [if_pos (by rw [decide_eq_true_eq]; omega)] at ev
    rw [if_neg c, if_neg c]
    exact pc ev rfl
theorem spRTrim {r : Rf} {p : Int} (hd : r.done.length ≤ 1000000) (ha : r.armed ≤ 9223372036854775807) (hs : r.now.st.length ≤ 65536) (hb : 0 ≤ r.now.base ∧ r.now.base ≤ 1000000000) (hp : p ≤ 9223372036854775807) :
    pcall Cω 25 [.agg r.e, .int .i64 p] = some (.tuple [.agg (if r.now.base ≤ p ∧ p ≤ r.now.base + r.now.st.length then r.act ⟨-1, [], true, p⟩ else r).e, .int .i64 (if r.now.base ≤ p ∧ p ≤ r.now.base + r.now.st.length then 0 else 1)]) := by
  have ev := eqK25 Cω Lω (r.kept.pg.map cB) r.kept.base (r.kept.st.map cB) (r.now.pg.map cB) r.now.base (r.now.st.map cB) (r.done.map Pt.e) r.gone r.armed p
  rw [List.length_map] at ev
  by_cases c1 : p < r.now.base
  · rw [if_pos (decide_eq_true c1)] at ev
    rw [if_neg (fun e => by omega), if_neg (fun e => by omega)]
    exact pc ev rfl
  rw [if_neg (by simpa using c1), wrap_i64 (by omega) (by omega)] at ev
  by_cases c2 : p - r.now.base > ((r.now.st.length : Nat) : Int)
  · rw [if_pos (decide_eq_true c2)] at ev
    rw [if_neg (fun e => by omega), if_neg (fun e => by omega)]
    exact pc ev rfl
  rw [if_neg (by simpa using c2)] at ev
  rw [if_pos ⟨by omega, by omega⟩, if_pos ⟨by omega, by omega⟩]
  have hD := spDo (r := r) (u := ⟨-1, [], true, p⟩) ⟨fun h => absurd h (show ¬ (0 : Int) ≤ -1 by decide), fun _ _ => ⟨by show r.now.base ≤ p; omega, by show p ≤ _; omega, by omega⟩, fun _ h => by (cases h)⟩ hd ha (by unfold Pt.size; rw [if_neg (by rintro ⟨_, e⟩; cases e)]; decide)
  have hD' : pcall Cω 35 [.agg [bv r.kept.pg, .int .i64 r.kept.base, bv r.kept.st, bv r.now.pg, .int .i64 r.now.base, bv r.now.st, .psl false (r.done.map Pt.e), .bool r.gone, .int .i64 r.armed], .agg [.int .i64 (-1), .psl false [], .bool true, .int .i64 p]] = _ := hD
  unfold bv at hD'
  rw [hD'] at ev
  generalize r.act ⟨-1, [], true, p⟩ = r' at ev
  unfold Rf.e bv at ev
  simp only [asInt_int, asBool_bool, asStr_str, asSl_psl, asSl_nil, asAgg_agg, asTup_tup, asCons_cons, asNil_nil, asFlt_flt, asRef_ref, asWhole_whole, asView_view, asWv_whole, asWv_view, asFn_fn, asPref_pref, asOCons_cons, asONil_nil, asBox_box, asMade_made, asGone_dead, asGone_made, asCI_cons, asCB_cons, asCF_cons, asCS_psl, asCS_nil, asCW_cons, asCR_cons, asOM_cons, asOM_false, asOB_cons, asOB_false, asOG_dead, asOG_made, gS_mk, bind_some', onEx_exit, onEx_ret] at ev
  exact pc ev rfl
def Rf.new (P : Nat) : Rf := ⟨Dk.new P, Dk.new P, [], false, -1⟩
theorem spRNew {P : Nat} (hP : P ≤ 64) : pcall Cω 21 [.int .i64 (P : Nat)] = some (.agg (Rf.new P).e) := by
  have ev := eqK21 Cω Lω (P : Nat)
  have w : IntKind.wrap .i64 (512 * ((P : Nat) : Int)) = ((512 * P : Nat) : Int) := by rw [wrap_i64 (by omega) (by omega)]; omega
  rw [w, if_pos ⟨by omega, rfl, by omega, by omega⟩, Int.toNat_natCast] at ev
  have hz : List.replicate (512 * P) [PV.int .u8 0] = (Dk.new P).pg.map cB := by
    unfold Dk.new
    rw [List.map_replicate]
    rfl
  rw [hz] at ev
  exact pc ev rfl
end Go.Pvm.S
