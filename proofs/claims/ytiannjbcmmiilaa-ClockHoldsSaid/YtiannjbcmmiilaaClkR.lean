/- Part of the proof: clocks with pins: the calls, made by the law; what is held, in a map. -/
import Derived.Test.YtiannjbcmmiilaaClkQ
import Derived.Test.YtiannjbcmmiilaaEqAll
import Derived.Test.YtiannjbcmmiilaaP4
set_option linter.unusedSimpArgs false
set_option linter.unusedVariables false
set_option maxRecDepth 100000
namespace Go.Pvm.S
open Go.Pvm Go.Proofs
theorem spAwake : pcall Cω 7 [] = some (.bool true) := by
  have ev := eqK7 Cω Lω
  have h0 := spNew 2
  have e0 : newS 2 = (⟨[noSp, noSp], 0⟩, 0) := by decide +kernel
  have h1 := spTouch ⟨[noSp, noSp], 0⟩ 1 (by decide)
  have e1 : touchS ⟨[noSp, noSp], 0⟩ 1 = (⟨[⟨1, true, false⟩, noSp], 0⟩, 0, -1, 0) := by decide +kernel
  have h2 := spTouch ⟨[⟨1, true, false⟩, noSp], 0⟩ 2 (by decide)
  have e2 : touchS ⟨[⟨1, true, false⟩, noSp], 0⟩ 2 = (⟨[⟨1, true, false⟩, ⟨2, true, false⟩], 0⟩, 1, -1, 0) := by decide +kernel
  have h3 := spTouch ⟨[⟨1, true, false⟩, ⟨2, true, false⟩], 0⟩ 3 (by decide)
  have e3 : touchS ⟨[⟨1, true, false⟩, ⟨2, true, false⟩], 0⟩ 3 = (⟨[⟨3, true, false⟩, ⟨2, false, false⟩], 1⟩, 0, 1, 0) := by decide +kernel
  rw [e0] at h0
  rw [e1] at h1
  rw [e2] at h2
  rw [e3] at h3
  simp only [Ck.v, sps] at h0 h1 h2 h3
  simp only [h0, h1, h2, h3, asInt_int, asBool_bool, asStr_str, asSl_psl, asSl_nil, asAgg_agg, asTup_tup, asCons_cons, asNil_nil, asFlt_flt, asRef_ref, asWhole_whole, asView_view, asWv_whole, asWv_view, asFn_fn, asPref_pref, asOCons_cons, asONil_nil, asBox_box, asMade_made, asGone_dead, asGone_made, asCI_cons, asCB_cons, asCF_cons, asCS_psl, asCS_nil, asCW_cons, asCR_cons, asOM_cons, asOM_false, asOB_cons, asOB_false, asOG_dead, asOG_made, gS_mk, bind_some', onEx_exit, onEx_ret] at ev
  exact pc ev rfl
theorem spPin (c : Ck) (page : Int) (on : Bool) (hl : c.l.length ≤ 100) : pcall Cω 9 [c.v, .int .i64 page, .bool on] = some (.tuple [(pinS c page on).1.v, .int .i64 (pinS c page on).2]) := by
  have ev := eqK9 Cω Lω (c.l.map Sp.e) c.h page on
  have hc := spCheck c (by omega)
  simp only [Ck.v, sps] at hc
  simp only [hc, asInt_int, asBool_bool, asStr_str, asSl_psl, asSl_nil, asAgg_agg, asTup_tup, asCons_cons, asNil_nil, asFlt_flt, asRef_ref, asWhole_whole, asView_view, asWv_whole, asWv_view, asFn_fn, asPref_pref, asOCons_cons, asONil_nil, asBox_box, asMade_made, asGone_dead, asGone_made, asCI_cons, asCB_cons, asCF_cons, asCS_psl, asCS_nil, asCW_cons, asCR_cons, asOM_cons, asOM_false, asOB_cons, asOB_false, asOG_dead, asOG_made, gS_mk, bind_some', onEx_exit, onEx_ret] at ev
  unfold pinS
  by_cases c1 : c.ok = true
  · rw [if_pos c1, if_neg (by decide)] at ev
    rw [if_neg (by rw [c1]; decide)]
    have ho := spOwn c hl
    have ha := spAt c page (by omega)
    simp only [Ck.v, sps] at ho ha
    simp only [ho, ha, asInt_int, asBool_bool, asStr_str, asSl_psl, asSl_nil, asAgg_agg, asTup_tup, asCons_cons, asNil_nil, asFlt_flt, asRef_ref, asWhole_whole, asView_view, asWv_whole, asWv_view, asFn_fn, asPref_pref, asOCons_cons, asONil_nil, asBox_box, asMade_made, asGone_dead, asGone_made, asCI_cons, asCB_cons, asCF_cons, asCS_psl, asCS_nil, asCW_cons, asCR_cons, asOM_cons, asOM_false, asOB_cons, asOB_false, asOG_dead, asOG_made, gS_mk, bind_some', onEx_exit, onEx_ret] at ev
    cases hq : atS c.l page with
    | none =>
      simp only [hq, idxO] at ev
      rw [if_pos (by decide)] at ev
      exact pc ev rfl
    | some i =>
      have hi := atS_lt hq
      have hg := List.getElem?_eq_getElem hi
      have hgd : c.l.getD i noSp = c.l[i] := by rw [List.getD_eq_getElem?_getD, hg]; rfl
      simp only [hq, idxO] at ev
      rw [if_neg (by simp)] at ev
      by_cases c2 : page < 0
      · rw [if_pos (by simpa using c2)] at ev
        simp only [if_pos c2]
        exact pc ev rfl
      · rw [if_neg (by simpa using c2), List.length_map, if_pos ⟨by omega, by omega⟩, Int.toNat_natCast, if_pos hi, mapGetD hg] at ev
        have hov : over c.l[i].e 2 [.bool on] = Sp.e { c.l[i] with n := on } := rfl
        rw [hov, ← List.map_set] at ev
        simp only [if_neg c2, hgd]
        exact pc ev rfl
  · rw [if_neg c1, if_pos (by decide)] at ev
    rw [if_pos (by simpa using c1)]
    exact pc ev rfl

/-! ### Values of the law -/
theorem callK {c2 : Cfg} {g : FuncId} {a pa : List PV} {v : PV} (hm : c2.mode g = .pure) (hP : c2.P = Try.prog) (he : enters Try.prog g = true) (h : pcall Cω g a = some v) (ha : VFs a pa) (hf : ∀ σ, pa.map (fz fuelFz σ) = pa) (hl : PV.lf.lfs pa = true) (σ : Store) : ∃ p, callE c2 (callω cfg) g pa σ = some (p, σ) ∧ VF v p := by
  obtain ⟨p, τ, h1, h2⟩ := pcall_sound hT ownOk h ha
  refine ⟨fz fuelFz τ p, callE_pure hm (by rw [hP]; exact he) (hf σ) ?_ (.inr hl), h2⟩
  unfold pureω
  rw [h1]
  rfl
theorem VFss_fn {α : Type} {e : α → List PV} (he : ∀ a, (e a).all PV.base = true) : ∀ {l : List α} {ps : List (List PV)}, VFss (l.map e) ps → ps = l.map e := by
  intro l
  induction l with
  | nil => intro ps h; cases h; rfl
  | cons a l ih =>
    intro ps h
    cases h with
    | cons h t => rw [List.map_cons, h.base_eq (he a), ih t]
theorem All2.fn {α : Type} (e : α → List PV) : ∀ l : List α, All2 (Fn e) (l.map e) l
  | [] => .nil
  | a :: l => .cons rfl (All2.fn e l)
theorem VF.slOf {α : Type} {e : α → List PV} (he : ∀ a, (e a).all PV.base = true) {l : List α} {p : PV} (h : VF (.psl false (l.map e)) p) : IsS (Fn e) p l := by
  generalize hq : l.map e = es at h
  cases h with
  | base h => cases ‹PV.base _ = true›
  | psl b b' h =>
    subst hq
    have hp := VFss_fn he h
    subst hp
    exact ⟨_, .inr ⟨b', rfl⟩, All2.fn e l⟩
  | nl b =>
    have : l = [] := by cases l <;> first | rfl | cases hq
    subst this
    exact .nil
theorem TSp : SlT Try.prog 22 30 3 16 := ⟨by kernel_rfl, by kernel_rfl, by kernel_rfl, ⟨.agg [.int .i64 0, .bool false, .bool false], by kernel_rfl, rfl, rfl⟩, by decide, by decide⟩
theorem okSp : ROk 3 (Fn Sp.e) := ROk.fn fun a => ⟨rfl, by simp [Sp.e, PV.plain]⟩
theorem TB : SlT Try.prog 35 5 1 1 := ⟨by kernel_rfl, by kernel_rfl, by kernel_rfl, ⟨.int .u8 0, by kernel_rfl, rfl, rfl⟩, by decide, by decide⟩
theorem oB : OneT Try.prog 5 := .of (by kernel_rfl) (by kernel_rfl)
theorem otSp : OneT Try.prog 22 := .of (by kernel_rfl) (by kernel_rfl)
theorem aggClock : AggT Try.prog 24 2 := .of (by kernel_rfl) (by kernel_rfl)
theorem szClock : szOf Try.prog 24 = some 2 := by kernel_rfl
theorem fSp (q : List PV) : fieldAddrv Try.prog 30 (.pref q) 0 = some (.pref q) := by kernel_rfl
theorem fPin (s : Sp) : fieldAddrv Try.prog 30 (.pref s.e) 2 = some (.pref [.bool s.n]) := by kernel_rfl
theorem fCl (i : Nat) : fieldAddrv Try.prog 24 (.ref i 0 0) 0 = some (.ref i 0 0) := by kernel_rfl
theorem ldP {σ : Store} {t : TypeId} (h : OneT Try.prog t) {c : List PV} {v : PV} (hc : c[0]? = some v) : loadv Try.prog σ t (.pref c) = some v := (h.part 0).trans hc
theorem ldOne {σ : Store} {t : TypeId} (h : OneT Try.prog t) {id off : Nat} {c : List PV} {v : PV} {ro : Nat} (ho : σ.objs id = some (.cells ro [c])) (hc : c[off]? = some v) : loadv Try.prog σ t (.ref id 0 off) = some v := by
  rw [ldRef ho rfl, h.part, hc]
/-- The cells that a clock has. -/
def CC (c : Ck) (cs : List PV) : Prop := ∃ q, cs = [q, .int .i64 c.h] ∧ IsS (Fn Sp.e) q c.l
theorem IsS.vfOf {α : Type} {e : α → List PV} (he : ∀ a, VFs (e a) (e a)) {l : List α} {q : PV} (h : IsS (Fn e) q l) : VF (.psl false (l.map e)) q := by
  obtain ⟨es, h1, h2⟩ := h
  have hes : es = l.map e := by
    clear h1
    induction h2 with
    | nil => rfl
    | cons h _ ih => rw [List.map_cons, ← ih, show _ = e _ from h]
  have refl : ∀ l : List α, VFss (l.map e) (l.map e) := fun l => by
    induction l with
    | nil => exact .nil
    | cons a l ih => exact .cons (he a) ih
  rcases h1 with ⟨rfl, h3⟩ | ⟨b, rfl⟩
  · rw [h3] at hes
    rw [← hes]
    exact .nl false
  · rw [hes]
    exact .psl false b (refl l)
theorem CC.vf {c : Ck} {cs : List PV} (h : CC c cs) : VF c.v (.agg cs) := by
  obtain ⟨q, rfl, h⟩ := h
  exact .agg (.cons (IsS.vfOf (fun a => .cons (.base _ rfl) (.cons (.base _ rfl) (.cons (.base _ rfl) .nil))) h) (.cons (.base _ rfl) .nil))
theorem CC.of {c : Ck} {p : PV} (h : VF c.v p) : ∃ cs, p = .agg cs ∧ CC c cs := by
  cases h with
  | base h => cases ‹PV.base _ = true›
  | agg h =>
    cases h with | cons a0 h => cases h with | cons a1 h =>
    cases h
    rw [a1.base_eq rfl]
    exact ⟨_, rfl, _, rfl, VF.slOf (fun a => rfl) a0⟩
theorem CC.pl {c : Ck} {cs : List PV} (h : CC c cs) : ∀ x ∈ cs, x.plain = true := by
  obtain ⟨q, rfl, h⟩ := h
  intro x hx
  rcases List.mem_cons.1 hx with rfl | hx
  · exact h.plain
  · rw [List.mem_singleton.1 hx]; rfl
theorem CC.ln {c : Ck} {cs : List PV} (h : CC c cs) : cs.length = 2 := by obtain ⟨q, rfl, h⟩ := h; rfl
theorem fzAgg {cs : List PV} (h : ∀ c ∈ cs, c.plain = true) (σ : Store) : fz fuelFz σ (.agg cs) = .agg cs := by
  show PV.agg (cs.map (fz 7 σ)) = _
  rw [fz_plains h 6]
theorem lfsPl {cs : List PV} (h : ∀ c ∈ cs, c.plain = true) : PV.lf.lfs cs = true := by
  induction cs with
  | nil => rfl
  | cons c cs ih =>
    unfold PV.lf.lfs
    rw [lf_plain (h c (.head _)), ih fun c hc => h c (.tail _ hc)]
    rfl
theorem lfAgg {cs : List PV} (h : ∀ c ∈ cs, c.plain = true) : (PV.agg cs).lf = true := by
  unfold PV.lf
  exact lfsPl h
/-! ### Calls -/
theorem cENew (n : Int) (σ : Store) : ∃ cs, callE cfg (callω cfg) 6 [.int .i64 n] σ = some (.tuple [.agg cs, .int .i64 (newS n).2], σ) ∧ CC (newS n).1 cs := by
  obtain ⟨p, h1, h2⟩ := callK (c2 := cfg) rfl rfl (by kernel_rfl) (spNew n) (.cons (.base _ rfl) .nil) (fun σ => rfl) rfl σ
  cases h2 with
  | base h => cases ‹PV.base _ = true›
  | tuple h =>
    cases h with | cons a0 h => cases h with | cons a1 h =>
    cases h
    rw [a1.base_eq rfl] at h1
    obtain ⟨cs, rfl, hc⟩ := CC.of a0
    exact ⟨cs, h1, hc⟩
theorem cEAwake (σ : Store) : callE cfg (callω cfg) 7 [] σ = some (.bool true, σ) := by
  obtain ⟨p, h1, h2⟩ := callK (c2 := cfg) rfl rfl (by kernel_rfl) spAwake .nil (fun σ => rfl) rfl σ
  rw [h2.base_eq rfl] at h1
  exact h1
theorem cETouch {c : Ck} {cs : List PV} (hc : CC c cs) (hl : c.l.length ≤ 100) (p : Int) (σ : Store) : ∃ cs', callE cfg (callω cfg) 8 [.agg cs, .int .i64 p] σ = some (.tuple [.agg cs', .int .i64 (touchS c p).2.1, .int .i64 (touchS c p).2.2.1, .int .i64 (touchS c p).2.2.2], σ) ∧ CC (touchS c p).1 cs' := by
  obtain ⟨p, h1, h2⟩ := callK (c2 := cfg) rfl rfl (by kernel_rfl) (spTouch c p hl) (.cons hc.vf (.cons (.base _ rfl) .nil)) (fun σ => by rw [List.map_cons, fzAgg hc.pl]; rfl) (by unfold PV.lf.lfs; rw [lfAgg hc.pl]; rfl) σ
  cases h2 with
  | base h => cases ‹PV.base _ = true›
  | tuple h =>
    cases h with | cons a0 h => cases h with | cons a1 h => cases h with | cons a2 h => cases h with | cons a3 h =>
    cases h
    rw [a1.base_eq rfl, a2.base_eq rfl, a3.base_eq rfl] at h1
    obtain ⟨cs, rfl, hc⟩ := CC.of a0
    exact ⟨cs, h1, hc⟩
theorem cEPin {c : Ck} {cs : List PV} (hc : CC c cs) (hl : c.l.length ≤ 100) (p : Int) (on : Bool) (σ : Store) : ∃ cs', callE cfg (callω cfg) 9 [.agg cs, .int .i64 p, .bool on] σ = some (.tuple [.agg cs', .int .i64 (pinS c p on).2], σ) ∧ CC (pinS c p on).1 cs' := by
  obtain ⟨p, h1, h2⟩ := callK (c2 := cfg) rfl rfl (by kernel_rfl) (spPin c p on hl) (.cons hc.vf (.cons (.base _ rfl) (.cons (.base _ rfl) .nil))) (fun σ => by rw [List.map_cons, fzAgg hc.pl]; rfl) (by unfold PV.lf.lfs; rw [lfAgg hc.pl]; rfl) σ
  cases h2 with
  | base h => cases ‹PV.base _ = true›
  | tuple h =>
    cases h with | cons a0 h => cases h with | cons a1 h =>
    cases h
    rw [a1.base_eq rfl] at h1
    obtain ⟨cs, rfl, hc⟩ := CC.of a0
    exact ⟨cs, h1, hc⟩
/-! ### What is held -/
def hdv (hd : Hd) : List (PV × PV) := hd.map fun x => (.int .i64 x.1, .int .i64 x.2)
theorem mfind_hdv (p : Int) : ∀ (hd : Hd) (i : Nat), mfind (.int .i64 p) (hdv hd) i = some (match hd.findIdx? (fun x => x.1 == p) with | some j => some (i + j, .int .i64 (hd.getD j (0, 0)).2) | none => none)
  | [], i => rfl
  | x :: hd, i => by
    have ih := mfind_hdv p hd (i + 1)
    unfold hdv at ih ⊢
    rw [List.map_cons]
    unfold mfind
    simp only [if_true, List.findIdx?_cons]
    by_cases c : p = x.1
    · rw [if_pos c, if_pos (by simp [c])]
      rfl
    · rw [if_neg c, if_neg (by simp; omega), ih]
      cases hd.findIdx? fun x => x.1 == p with
      | none => rfl
      | some j =>
        simp only [Option.map_some]
        rw [show i + 1 + j = i + (j + 1) by omega]
        rfl
theorem mapInt : mapTy Try.prog 36 = some (.i64, 3) := by kernel_rfl
theorem zInt : zeroOf Try.prog 3 = some (.int .i64 0) := by kernel_rfl
theorem lookH {σ : Store} {m : Nat} {hd : Hd} (h : σ.objs m = some (.map (hdv hd))) (p : Int) :
    (∃ k, (p, k) ∈ hd ∧ lookupv Try.prog σ 36 (.mref m) (.int .i64 p) true = some (.tuple [.int .i64 k, .bool true])) ∨ ((∀ x ∈ hd, x.1 ≠ p) ∧ lookupv Try.prog σ 36 (.mref m) (.int .i64 p) true = some (.tuple [.int .i64 0, .bool false])) := by
  have e : lookupv Try.prog σ 36 (.mref m) (.int .i64 p) true = (mfind (.int .i64 p) (hdv hd) 0).bind fun r => (match r with
      | some (_, v) => some (v, true)
      | none => (zeroOf Try.prog 3).map (·, false)).map fun (v, b) => if true = true then .tuple [v, .bool b] else v := by
    unfold lookupv
    rw [mapInt]
    simp only [Option.bind_some, if_true, h]
    rfl
  rw [e, mfind_hdv, bind_some', zInt]
  cases hq : hd.findIdx? fun x => x.1 == p with
  | none =>
    refine .inr ⟨fun x hx => ?_, rfl⟩
    rw [List.findIdx?_eq_none_iff] at hq
    simpa using hq x hx
  | some j =>
    obtain ⟨h1, h2, _⟩ := List.findIdx?_eq_some_iff_getElem.1 hq
    have hg := List.getElem?_eq_getElem h1
    have hgd : hd.getD j (0, 0) = hd[j] := by rw [List.getD_eq_getElem?_getD, hg]; rfl
    refine .inl ⟨hd[j].2, ?_, ?_⟩
    · have : hd[j] = (p, hd[j].2) := by
        have h2 : hd[j].1 = p := by simpa using h2
        rw [← h2]
      rw [← this]
      exact List.getElem_mem h1
    · simp only [hgd]
      rfl
theorem setH {σ : Store} {m : Nat} {hd : Hd} (h : σ.objs m = some (.map (hdv hd))) (p k : Int) : mapUpdv Try.prog σ 36 (.mref m) (.int .i64 p) (.int .i64 k) = some (σ.put m (.map (hdv (updH hd p k)))) := by
  have e : mapUpdv Try.prog σ 36 (.mref m) (.int .i64 p) (.int .i64 k) = (mfind (.int .i64 p) (hdv hd) 0).map fun r => match r with
      | some (i, _) => σ.put m (.map ((hdv hd).set i (.int .i64 p, .int .i64 k)))
      | none => σ.put m (.map (hdv hd ++ [(.int .i64 p, .int .i64 k)])) := by
    unfold mapUpdv
    rw [mapInt]
    simp only [Option.bind_some, if_true, h]
    rfl
  rw [e, mfind_hdv]
  unfold updH
  cases hq : hd.findIdx? fun x => x.1 == p with
  | none =>
    simp only [Option.map_some]
    unfold hdv
    rw [List.map_append]
    rfl
  | some j =>
    simp only [Option.map_some, Nat.zero_add]
    unfold hdv
    rw [List.map_set]
theorem lenH {σ : Store} {m : Nat} {hd : Hd} (h : σ.objs m = some (.map (hdv hd))) : mapLenv σ (.mref m) = some (.int .i64 (hd.length : Nat)) := by
  unfold mapLenv
  simp only [h]
  unfold hdv
  rw [List.length_map]
end Go.Pvm.S
