/- Part of the proof: the document's device over values alone: a page that is written, what is behind a crash, counts, pages of bytes. -/
import Derived.Test.YtgcfmhlgbakdfaaDraB
set_option linter.unusedSimpArgs false
set_option linter.unusedVariables false
set_option maxRecDepth 100000
namespace Go.Pvm.S
open Go.Pvm Go.Proofs
/-- What is always so of the document's device, as far as the calls need it. -/
structure Rok (P n : Nat) (r : Rf) : Prop where
  hP : P ≤ 64
  pl : r.now.pg.length = 512 * P
  bs : 0 ≤ r.now.base ∧ r.now.base ≤ 1000000000
  st : r.now.st.length ≤ 65536
  dn : r.done.length ≤ n
  ar : -1 ≤ r.armed ∧ r.armed ≤ 9223372036854775807
  kl : r.kept.pg.length = 512 * P
theorem act_same (r : Rf) (u : Pt) : (r.act u).now = r.now.part u ∧ (r.act u).done.length ≤ r.done.length + 1 ∧ (r.act u).kept = r.kept := by
  unfold Rf.act
  by_cases hg : r.gone = true
  · rw [if_pos hg]; exact ⟨rfl, Nat.le_succ _, rfl⟩
  · rw [if_neg hg]
    by_cases c : 0 ≤ r.armed ∧ u.size > r.armed
    · rw [if_pos c]
      refine ⟨rfl, ?_, rfl⟩
      show (if (u.first r.armed).2 = true then r.done ++ [(u.first r.armed).1] else r.done).length ≤ _
      split
      · rw [List.length_append]; exact Nat.le_refl _
      · exact Nat.le_succ _
    · rw [if_neg c]
      refine ⟨rfl, ?_, rfl⟩
      show (if (u.first u.size).2 = true then r.done ++ [(u.first u.size).1] else r.done).length ≤ _
      split
      · rw [List.length_append]; exact Nat.le_refl _
      · exact Nat.le_succ _
theorem act_arm (r : Rf) (u : Pt) (h : -1 ≤ r.armed ∧ r.armed ≤ 9223372036854775807) (hs : 0 ≤ u.size) : -1 ≤ (r.act u).armed ∧ (r.act u).armed ≤ 9223372036854775807 := by
  unfold Rf.act
  by_cases hg : r.gone = true
  · rw [if_pos hg]; exact h
  · rw [if_neg hg]
    by_cases c : 0 ≤ r.armed ∧ u.size > r.armed
    · rw [if_pos c]; exact ⟨show (-1 : Int) ≤ 0 by decide, show (0 : Int) ≤ 9223372036854775807 by decide⟩
    · rw [if_neg c]
      show -1 ≤ (if 0 ≤ r.armed then r.armed - u.size else r.armed) ∧ (if 0 ≤ r.armed then r.armed - u.size else r.armed) ≤ _
      split
      · rename_i h0
        have : ¬ u.size > r.armed := fun e => c ⟨h0, e⟩
        omega
      · exact h
def rwF (page : Nat) (b : By) : Nat → Nat → Rf → Rf
  | 0, _, r => r
  | k + 1, i, r => rwF page b k (i + 1) (r.act ⟨((page * 4 + i : Nat) : Int), (b.drop (i * 128)).take 128, false, 0⟩)
theorem lpRWr {P page : Nat} {b : By} (hp : page < P) (hb : b.length = 512)   : ∀ (k i n : Nat) (r : Rf), i + k = 4 → Rok P n r → n + 4 ≤ 1000000 + i →
    Lω 23 lcK23_6 0 (stK23_6 (page : Nat) (b.map cB) (i : Nat)) [.box true 53 r.e, .box true 53 [whole 2 1, .int .i64 0, whole 3 1, whole 4 1, .int .i64 0, whole 5 1, whole 6 4, .bool false, .int .i64 0], .made true 1 [], .made true 1 [], .made true 1 [], .made true 1 [], .made true 4 []] =
    some (.exit 0, mkS 44 [(3, .ref 0 0 0), (6, .ref 1 0 0)], [.box true 53 (rwF page b k i r).e, .box true 53 [whole 2 1, .int .i64 0, whole 3 1, whole 4 1, .int .i64 0, whole 5 1, whole 6 4, .bool false, .int .i64 0], .made true 1 [], .made true 1 [], .made true 1 [], .made true 1 [], .made true 4 []])
  | 0, i, n, r, h, hr, hn => by
    have : i = 4 := by omega
    subst this
    refine lw ((lqK23_6 Cω Lω (page : Nat) (b.map cB) _ (r.kept.pg.map cB) r.kept.base (r.kept.st.map cB) (r.now.pg.map cB) r.now.base (r.now.st.map cB) (r.done.map Pt.e) r.gone r.armed 0 0 false 0 [] [] [] [] []).trans ?_)
    rw [if_neg (by decide)]
    rfl
  | k + 1, i, n, r, h, hr, hn => by
    have hP := hr.hP
    have ev := lqK23_6 Cω Lω (page : Nat) (b.map cB) (i : Nat) (r.kept.pg.map cB) r.kept.base (r.kept.st.map cB) (r.now.pg.map cB) r.now.base (r.now.st.map cB) (r.done.map Pt.e) r.gone r.armed 0 0 false 0 [] [] [] [] []
    have w1 : IntKind.wrap .i64 (128 * ((i : Nat) : Int)) = ((i * 128 : Nat) : Int) := by rw [wrap_i64 (by omega) (by omega)]; omega
    have w2 : IntKind.wrap .i64 (((i * 128 : Nat) : Int) + 128) = ((i * 128 + 128 : Nat) : Int) := by rw [wrap_i64 (by omega) (by omega)]; omega
    have w3 : IntKind.wrap .i64 (4 * ((page : Nat) : Int)) = ((page * 4 : Nat) : Int) := by rw [wrap_i64 (by omega) (by omega)]; omega
    have w4 : IntKind.wrap .i64 (((page * 4 : Nat) : Int) + ((i : Nat) : Int)) = ((page * 4 + i : Nat) : Int) := by rw [wrap_i64 (by omega) (by omega)]; omega
    rw [if_pos (by rw [decide_eq_true_eq]; omega), w1, w2, w3, w4, numN, numN, bind_some', bind_some', if_pos (bAll _), List.length_map, if_pos ⟨by omega, by omega⟩, show i * 128 + 128 - i * 128 = 128 by omega, ← List.map_drop, ← List.map_take] at ev
    have hu : Pt.size ⟨((page * 4 + i : Nat) : Int), (b.drop (i * 128)).take 128, false, 0⟩ = 1 := by
      unfold Pt.size
      rw [if_neg (by rintro ⟨e, _⟩; have e : ((page * 4 + i : Nat) : Int) < 0 := e; omega)]
    have hlen : ((b.drop (i * 128)).take 128).length = 128 := by simp; omega
    have hfit : Fit r.now ⟨((page * 4 + i : Nat) : Int), (b.drop (i * 128)).take 128, false, 0⟩ := ⟨fun _ => ⟨by show 128 * Int.toNat ((page * 4 + i : Nat) : Int) + 128 ≤ _; rw [Int.toNat_natCast, hr.pl]; omega, by show ((page * 4 + i : Nat) : Int) ≤ _; omega, by rw [hr.pl]; omega, by show ((b.drop (i * 128)).take 128).length ≤ _; omega⟩, fun e => by have e : ((page * 4 + i : Nat) : Int) < 0 := e; omega, fun e => by have e : ((page * 4 + i : Nat) : Int) < 0 := e; omega⟩
    have hD := spDo (r := r) (u := ⟨((page * 4 + i : Nat) : Int), (b.drop (i * 128)).take 128, false, 0⟩) hfit (by have := hr.dn; omega) hr.ar.2 (by rw [hu]; decide)
    obtain ⟨e1, e2, e3⟩ := act_same r ⟨((page * 4 + i : Nat) : Int), (b.drop (i * 128)).take 128, false, 0⟩
    have e4 := act_arm r ⟨((page * 4 + i : Nat) : Int), (b.drop (i * 128)).take 128, false, 0⟩ hr.ar (by rw [hu]; decide)
    have hpt : (r.now.part ⟨((page * 4 + i : Nat) : Int), (b.drop (i * 128)).take 128, false, 0⟩) = r.now.put (((page * 4 + i : Nat) : Int), (b.drop (i * 128)).take 128) := by
      unfold Dk.part
      rw [if_pos (by show (0 : Int) ≤ ((page * 4 + i : Nat) : Int); omega)]
    rw [hpt] at e1
    have hok : Rok P (n + 1) (r.act ⟨((page * 4 + i : Nat) : Int), (b.drop (i * 128)).take 128, false, 0⟩) := by
      refine ⟨hP, ?_, by rw [e1]; exact hr.bs, by rw [e1]; exact hr.st, by have := hr.dn; omega, e4, by rw [e3]; exact hr.kl⟩
      rw [e1]
      show (putP r.now.pg _).length = _
      rw [putP_len (by rw [hr.pl]; show 128 * Int.toNat ((page * 4 + i : Nat) : Int) + 128 ≤ _; rw [Int.toNat_natCast]; omega) hlen, hr.pl]
    have hD' : pcall Cω 35 [.agg [bv r.kept.pg, .int .i64 r.kept.base, bv r.kept.st, bv r.now.pg, .int .i64 r.now.base, bv r.now.st, .psl false (r.done.map Pt.e), .bool r.gone, .int .i64 r.armed], .agg [.int .i64 ((page * 4 + i : Nat) : Int), bv ((b.drop (i * 128)).take 128), .bool false, .int .i64 0]] = _ := hD
    unfold bv at hD'
    rw [hD'] at ev
    unfold rwF
    have ih := lpRWr hp hb k (i + 1) (n + 1) _ (by omega) hok (by omega)
    generalize r.act ⟨((page * 4 + i : Nat) : Int), (b.drop (i * 128)).take 128, false, 0⟩ = r' at ev ih
    have hr' : r'.e = [.psl false (r'.kept.pg.map cB), .int .i64 r'.kept.base, .psl false (r'.kept.st.map cB), .psl false (r'.now.pg.map cB), .int .i64 r'.now.base, .psl false (r'.now.st.map cB), .psl false (r'.done.map Pt.e), .bool r'.gone, .int .i64 r'.armed] := rfl
    rw [hr'] at ev
    simp only [asInt_int, asBool_bool, asStr_str, asSl_psl, asSl_nil, asAgg_agg, asTup_tup, asCons_cons, asNil_nil, asFlt_flt, asRef_ref, asWhole_whole, asView_view, asWv_whole, asWv_view, asFn_fn, asPref_pref, asOCons_cons, asONil_nil, asBox_box, asMade_made, asGone_dead, asGone_made, asCI_cons, asCB_cons, asCF_cons, asCS_psl, asCS_nil, asCW_cons, asCR_cons, asOM_cons, asOM_false, asOB_cons, asOB_false, asOG_dead, asOG_made, gS_mk, bind_some', onEx_exit, onEx_ret] at ev
    rw [wrap_succ (by omega)] at ev
    exact lw (ev.trans ih)
theorem spRWrite {P n : Nat} {r : Rf} (hr : Rok P n r) (hn : n + 4 ≤ 1000000) (page : Int) {b : By} (hb : b.length < 4611686018427387904) :
    pcall Cω 23 [.agg r.e, .int .i64 page, bv b] = some (.tuple [.agg (if 0 ≤ page ∧ page < P ∧ b.length = 512 then rwF page.toNat b 4 0 r else r).e, .int .i64 (if 0 ≤ page ∧ page < P then (if b.length = 512 then 0 else 1) else 3)]) := by
  have hP := hr.hP
  have ev := eqK23 Cω Lω (r.kept.pg.map cB) r.kept.base (r.kept.st.map cB) (r.now.pg.map cB) r.now.base (r.now.st.map cB) (r.done.map Pt.e) r.gone r.armed page (b.map cB)
  by_cases c1 : page < 0
  · rw [if_pos (decide_eq_true c1)] at ev
    rw [if_neg (by omega), if_neg (by omega)]
    exact pc ev rfl
  have hd : IntKind.wrap .i64 (Int.tdiv ((List.length (r.kept.pg.map cB) : Nat) : Int) 512) = ((P : Nat) : Int) := by
    rw [List.length_map, hr.kl, Int.tdiv_eq_ediv_of_nonneg (by omega), wrap_i64 (by omega) (by omega)]
    omega
  rw [if_neg (by simpa using c1), hd] at ev
  by_cases c2 : page ≥ ((P : Nat) : Int)
  · rw [if_pos (decide_eq_true c2)] at ev
    rw [if_neg (by omega), if_neg (by omega)]
    exact pc ev rfl
  rw [if_neg (by simpa using c2), List.length_map] at ev
  by_cases c3 : b.length = 512
  · rw [if_neg (by rw [c3]; decide)] at ev
    rw [if_pos ⟨by omega, by omega, c3⟩, if_pos ⟨by omega, by omega⟩, if_pos c3]
    have hp : page = ((page.toNat : Nat) : Int) := by omega
    have lp := lpRWr (P := P) (page := page.toNat) (by omega) c3 4 0 n r (by omega) hr (by omega)
    rw [← hp, natz] at lp
    have hr0 : r.e = [.psl false (r.kept.pg.map cB), .int .i64 r.kept.base, .psl false (r.kept.st.map cB), .psl false (r.now.pg.map cB), .int .i64 r.now.base, .psl false (r.now.st.map cB), .psl false (r.done.map Pt.e), .bool r.gone, .int .i64 r.armed] := rfl
    rw [hr0] at lp
    rw [lp] at ev
    generalize rwF page.toNat b 4 0 r = r' at ev
    have hr' : r'.e = [.psl false (r'.kept.pg.map cB), .int .i64 r'.kept.base, .psl false (r'.kept.st.map cB), .psl false (r'.now.pg.map cB), .int .i64 r'.now.base, .psl false (r'.now.st.map cB), .psl false (r'.done.map Pt.e), .bool r'.gone, .int .i64 r'.armed] := rfl
    rw [hr'] at ev
    have g1 : List.getD (mkS 44 [(3, PV.ref 0 0 0), (6, .ref 1 0 0)]) 3 .undef = .ref 0 0 0 := rfl
    have g2 : List.getD (mkS 44 [(3, PV.ref 0 0 0), (6, .ref 1 0 0)]) 6 .undef = .ref 1 0 0 := rfl
    simp only [asInt_int, asBool_bool, asStr_str, asSl_psl, asSl_nil, asAgg_agg, asTup_tup, asCons_cons, asNil_nil, asFlt_flt, asRef_ref, asWhole_whole, asView_view, asWv_whole, asWv_view, asFn_fn, asPref_pref, asOCons_cons, asONil_nil, asBox_box, asMade_made, asGone_dead, asGone_made, asCI_cons, asCB_cons, asCF_cons, asCS_psl, asCS_nil, asCW_cons, asCR_cons, asOM_cons, asOM_false, asOB_cons, asOB_false, asOG_dead, asOG_made, gS_mk, bind_some', onEx_exit, onEx_ret, g1, g2, if_true] at ev
    exact pc ev rfl
  · rw [if_pos (by rw [bne_iff_ne]; omega)] at ev
    rw [if_neg (fun e => c3 e.2.2), if_pos ⟨by omega, by omega⟩, if_neg c3]
    exact pc ev rfl
end Go.Pvm.S
