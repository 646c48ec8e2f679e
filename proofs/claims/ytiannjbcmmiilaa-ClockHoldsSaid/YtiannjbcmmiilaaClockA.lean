/- Part of the proof: clocks, the program's: where a page is, whether a clock may be, copies, frames that are found. -/
import Derived.Test.YtiannjbcmmiilaaEqKAll
set_option linter.unusedSimpArgs false
set_option linter.unusedVariables false
set_option maxRecDepth 100000
namespace Go.Pvm.S
open Go.Pvm Go.Proofs
theorem hT : Tolds cfg := .none fun _ => rfl
/-! A copy is its own. -/
theorem cloneSpot_own : ∀ args es, cloneK 3 16 args = some es → ∀ pargs, VFs args pargs → ∀ n, ∃ p τ, callω cfg 16 pargs (.at_ n) = some (p, τ) ∧ p.own = true ∧ ownObjs τ n = true ∧ n ≤ τ.next ∧ hdl p = true ∧ KOR (fun _ => .undef) 0 τ p (.made true 3 es) ∧ ∀ i ∈ tops p, n ≤ i := by
  intro args es h pargs ha n
  unfold cloneK at h
  split at h
  · rename_i b es0
    split at h
    · rename_i hc
      cases h
      obtain ⟨h1, h2, h3⟩ := hc
      have hu : Try.prog.underlying 22 = some (.slice 30) := by kernel_rfl
      have E : El Try.prog 30 3 16 := ⟨by kernel_rfl, by kernel_rfl, ⟨.agg [.int .i64 0, .bool false, .bool false], by kernel_rfl, rfl, rfl⟩, by decide, by decide⟩
      have hb : binv Try.prog .eql 22 .nilsl .nilsl = some (.bool true) := by kernel_rfl
      have hb2 : ∀ b es, binv Try.prog .eql 22 (.psl b es) .nilsl = some (.bool false) := by intro b es; kernel_rfl
      have hbs : ∀ σ, buildSlv Try.prog σ 22 0 [] = some (.lsl σ.next 3 0 0 (some 0), σ.push (.cells 0 [])) := by intro σ; kernel_rfl
      cases ha with
      | cons hv ht =>
        cases ht
        rename_i p0
        have ev := eq16 (callω cfg) (loopω cfg) (.at_ n) p0
        rcases (VK.fr (ρ := fun _ => .undef) (m := 0) hv).psl_inv with ⟨rfl, rfl⟩ | ⟨b', ps, rfl, hps⟩
        · simp only [hb, bind_some', asBool_bool, if_true] at ev
          exact ⟨_, _, callω_ofK rfl ev, rfl, ownObjs_at n, Nat.le_refl _, rfl, ⟨by decide, rfl, .inl ⟨rfl, rfl⟩⟩, fun i hi => by cases hi⟩
        · have hpl := rowsPl_p hps h1
          have hE := rowsPl_els.1 hpl
          have hq : IsQ ((Store.at_ n).push (.cells 0 [])) 3 (.psl b' ps) ps := .inl (.inr ⟨b', rfl⟩)
          simp only [hb2, bind_some', asBool_bool, Bool.false_eq_true, if_false, hbs, writeB_append hu hu hq.nostr] at ev
          by_cases hn : ps = []
          · subst hn
            rw [appendv_none E hq.elems] at ev
            have he : es = [] := List.eq_nil_of_length_eq_zero (by rw [hps.len]; rfl)
            subst he
            exact ⟨_, _, callω_ofK rfl ev, rfl, ownObjs_push (ownObjs_at n) (Nat.le_refl _) rfl, Nat.le_succ _, rfl, ⟨by decide, rfl, .inr ⟨n, some 0, 0, [], [], rfl, push_obj _ _, .nil, .inr rfl, rfl, fun _ => rfl, Nat.lt_succ_self _⟩⟩, fun i hi => by rw [List.mem_singleton.1 hi]; exact Nat.le_refl _⟩
          · rw [appendv_full E hq.elems hE.all1 hn (push_obj _ _) (Nat.le_refl _) (by rw [Nat.zero_add, ← hps.len]; exact h3)] at ev
            refine ⟨_, _, callω_ofK rfl ev, rfl, ownObjs_push (ownObjs_push (ownObjs_at n) (Nat.le_refl _) rfl) (Nat.le_succ _) (by simpa using hps.own1 h1 h2), Nat.le_succ_of_le (Nat.le_succ _), rfl, ⟨by decide, h1, .inr ⟨n + 1, none, 0, ps, [], by rw [Nat.zero_add, hps.len]; rfl, by rw [List.append_nil]; exact push_obj _ _, hps, .inl rfl, rfl, fun _ => rfl, Nat.lt_succ_self _⟩⟩, fun i hi => by rw [List.mem_singleton.1 hi]; exact Nat.le_succ _⟩
    · cases h
  · cases h

theorem ownOk : OwnOk kcfg Try.prog (callω cfg) where
  own := by
    intro g sz h hg args es he
    have hg' : ownOf g = some (sz, h) := hg
    unfold ownOf at hg'
    split at hg'
    · cases hg'; exact cloneSpot_own args es he
    · cases hg'
  told := fun g u hu args σ => by
    have hu' : (none : Option Word) = some u := hu
    cases hu'
noncomputable abbrev Cω : CallK := callωK cfg kcfg
noncomputable abbrev Lω : LoopK := loopωK cfg kcfg

theorem lw {f : FuncId} {cd : Code} {n0 : Nat} {e : List PV} {A : List KO} {r : Ex × List PV × List KO} (h : stepLKK cfg kcfg Cω Lω f cd n0 e A = some r) : Lω f cd n0 e A = some r := loopωK_of h
theorem cw {f : FuncId} {e : List PV} {A : List KO} {r : PV × List KO} (h : stepKK cfg kcfg Cω Lω f e A = some r) : Cω f e A = some r := callωK_of h
theorem pc {f : FuncId} {a : List PV} {v w : PV} {A : List KO} (h : stepKK cfg kcfg Cω Lω f a [] = some (v, A)) (hf : fzK fuelFz A v = w) : pcall Cω f a = some w := pcall_of h hf

structure Sp where
  p : Int
  u : Bool
  n : Bool
  deriving DecidableEq
structure Ck where
  l : List Sp
  h : Int
  deriving DecidableEq
def Sp.e (s : Sp) : List PV := [.int .i64 s.p, .bool s.u, .bool s.n]
theorem Sp.e_ok (s : Sp) : s.e.length = 3 ∧ s.e.all PV.plain = true ∧ PV.own.owns s.e = true := ⟨rfl, rfl, rfl⟩
def sps (l : List Sp) : PV := .psl false (l.map Sp.e)
def Ck.v (c : Ck) : PV := .agg [sps c.l, .int .i64 c.h]
theorem oInt : OneT Try.prog 3 := .of (by kernel_rfl) (by kernel_rfl)
theorem oBool : OneT Try.prog 4 := .of (by kernel_rfl) (by kernel_rfl)
theorem mapGet {α : Type} {f : α → List PV} {l : List α} {i : Nat} {a : α} (h : l[i]? = some a) : (l.map f)[i]? = some (f a) := by rw [List.getElem?_map, h]; rfl
theorem mapGetD {α : Type} {f : α → List PV} {l : List α} {i : Nat} {a : α} (h : l[i]? = some a) : (l.map f).getD i [] = f a := by rw [List.getD_eq_getElem?_getD, mapGet h]; rfl

/-! ### Where a page is -/
def atS (l : List Sp) (page : Int) : Option Nat := l.findIdx? fun s => s.p == page
def idxO (o : Option Nat) : Int := match o with | some j => (j : Nat) | none => -1
theorem spAtf (s : Sp) (page : Int) : pcall Cω 18 [.agg s.e, .pref [.int .i64 page]] = some (.bool (s.p == page)) := pc (eqK18 _ _ s.p s.u s.n page) rfl
theorem lpIdx (l : List Sp) (page : Int) (hl : l.length < 4611686018427387904) : ∀ (k i : Nat), i + k = l.length → Lω 17 lcK17_2_18 0 (stK17_2_18 (l.map Sp.e) page (l.length : Nat) (i : Nat)) [] =
    some (match (l.drop i).findIdx? (fun s => s.p == page) with | some j => (.ret, mkS 19 [(4, .int .i64 ((i + j : Nat) : Int))], []) | none => (.exit 0, mkS 19 [], []))
  | 0, i, h => by
    refine lw ?_
    rw [lqK17_2_18, if_neg (by simp; omega), List.drop_of_length_le (by omega)]
    rfl
  | k + 1, i, h => by
    have hi : i < l.length := by omega
    have hg := List.getElem?_eq_getElem hi
    refine lw ?_
    rw [lqK17_2_18, if_pos (by simp; omega), if_pos (by omega), Int.toNat_natCast, mapGet hg]
    simp only [Sp.e, asInt_int, asBool_bool, asStr_str, asSl_psl, asSl_nil, asAgg_agg, asTup_tup, asCons_cons, asNil_nil, asFlt_flt, asRef_ref, asWhole_whole, asView_view, asWv_whole, asWv_view, asFn_fn, asPref_pref, asOCons_cons, asONil_nil, asBox_box, asMade_made, asGone_dead, asGone_made, asCI_cons, asCB_cons, asCF_cons, asCS_psl, asCS_nil, asCW_cons, asCR_cons, asOM_cons, asOM_false, asOB_cons, asOB_false, asOG_dead, asOG_made, gS_mk, bind_some', onEx_exit, onEx_ret]
    have := spAtf l[i] page
    simp only [Sp.e] at this
    rw [this]
    simp only [asInt_int, asBool_bool, asStr_str, asSl_psl, asSl_nil, asAgg_agg, asTup_tup, asCons_cons, asNil_nil, asFlt_flt, asRef_ref, asWhole_whole, asView_view, asWv_whole, asWv_view, asFn_fn, asPref_pref, asOCons_cons, asONil_nil, asBox_box, asMade_made, asGone_dead, asGone_made, asCI_cons, asCB_cons, asCF_cons, asCS_psl, asCS_nil, asCW_cons, asCR_cons, asOM_cons, asOM_false, asOB_cons, asOB_false, asOG_dead, asOG_made, gS_mk, bind_some', onEx_exit, onEx_ret]
    rw [List.drop_eq_getElem_cons hi, List.findIdx?_cons]
    by_cases hp : (l[i].p == page) = true
    · rw [if_pos hp, if_pos hp]
      simp
    · rw [if_neg hp, if_neg hp, wrap_succ (by omega), lpIdx l page hl k (i + 1) (by omega)]
      cases (l.drop (i + 1)).findIdx? fun s => s.p == page with
      | none => rfl
      | some j =>
        simp only [Option.map_some]
        rw [show i + 1 + j = i + (j + 1) by omega]
theorem spAt (c : Ck) (page : Int) (hl : c.l.length < 4611686018427387904) : pcall Cω 13 [c.v, .int .i64 page] = some (.int .i64 (idxO (atS c.l page))) := by
  have hx : pcall Cω 17 [.psl false (c.l.map Sp.e), .func 18 [.pref [.int .i64 page]]] = some (.int .i64 (idxO (atS c.l page))) := by
    have ev := eqK17_18 Cω Lω (c.l.map Sp.e) page
    have lp := lpIdx c.l page hl c.l.length 0 (by omega)
    rw [List.drop_zero, natz] at lp
    simp only [List.length_map, lp, bind_some'] at ev
    unfold atS
    cases hq : c.l.findIdx? fun s => s.p == page with
    | none =>
      rw [hq] at ev
      exact pc ev rfl
    | some j =>
      rw [hq] at ev
      simp only [getD_mkS (show 4 < 19 by decide), Nat.zero_add] at ev
      exact pc ev rfl
  have ev := eqK13 Cω Lω (c.l.map Sp.e) c.h page
  simp only [hx, asInt_int, asBool_bool, asStr_str, asSl_psl, asSl_nil, asAgg_agg, asTup_tup, asCons_cons, asNil_nil, asFlt_flt, asRef_ref, asWhole_whole, asView_view, asWv_whole, asWv_view, asFn_fn, asPref_pref, asOCons_cons, asONil_nil, asBox_box, asMade_made, asGone_dead, asGone_made, asCI_cons, asCB_cons, asCF_cons, asCS_psl, asCS_nil, asCW_cons, asCR_cons, asOM_cons, asOM_false, asOB_cons, asOB_false, asOG_dead, asOG_made, gS_mk, bind_some', onEx_exit, onEx_ret] at ev
  exact pc ev rfl
end Go.Pvm.S
