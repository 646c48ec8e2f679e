/- Part of the proof: images behind a group: done twice it is done once. -/
import Derived.Test.YtpilgmnhkgcgkaaRdG
set_option linter.unusedSimpArgs false
set_option linter.unusedVariables false
set_option maxRecDepth 100000
namespace Go.Pvm.S
open Go.Pvm Go.Proofs
theorem pureK {g : FuncId} {a pa : List PV} {v : PV} (h : pcall Cω g a = some v) (ha : VFs a pa) : ∃ p, pureω cfg g pa = some p ∧ VF v p := by
  obtain ⟨p, τ, h1, h2⟩ := pcall_sound hTo ownOk h ha
  exact ⟨fz fuelFz τ p, by unfold pureω; rw [h1]; rfl, h2⟩
theorem cB_vf : ∀ l : List UInt8, VFss (l.map cB) (l.map cB)
  | [] => .nil
  | a :: l => .cons (.cons (.base _ rfl) .nil) (cB_vf l)
theorem cB_inv : ∀ {l : List UInt8} {ps : List (List PV)}, VFss (l.map cB) ps → ps = l.map cB
  | [], _, h => by cases h; rfl
  | a :: l, _, h => by
    cases h with
    | cons h t => rw [h.base_eq rfl, cB_inv t]; rfl
theorem All2.toB : ∀ {es : List (List PV)} {l : List UInt8}, All2 RB es l → es = l.map cB
  | _, _, .nil => rfl
  | _, _, .cons h t => by rw [All2.toB t, show _ = cB _ from h]; rfl
theorem IsS.vfB {u : PV} {b : List UInt8} (h : IsS RB u b) : VF (.psl false (b.map cB)) u := by
  obtain ⟨es, h1, h2⟩ := h
  have he := All2.toB h2
  rcases h1 with ⟨rfl, h3⟩ | ⟨c, rfl⟩
  · rw [← he, h3]; exact .nl false
  · rw [he]; exact .psl false c (cB_vf b)
theorem VF.bytes {l : List UInt8} {p : PV} (h : VF (.psl false (l.map cB)) p) : IsS RB p l := by
  generalize hq : l.map cB = es at h
  cases h with
  | base h => cases ‹PV.base _ = true›
  | psl b b' h =>
    subst hq
    have hp := cB_inv h
    subst hp
    refine ⟨_, .inr ⟨b', rfl⟩, ?_⟩
    clear h
    induction l with
    | nil => exact .nil
    | cons a l ih => exact .cons rfl ih
  | nl b =>
    have : l = [] := by cases l <;> first | rfl | cases hq
    subst this
    exact .nil
theorem RI.vf : ∀ {es : List (List PV)} {l : List Img}, All2 RI es l → VFss (l.map Img.r) es
  | _, _, .nil => .nil
  | _, _, .cons h t => by
    obtain ⟨u, rfl, hu⟩ := h
    exact .cons (.cons (.base _ rfl) (.cons (IsS.vfB hu) .nil)) (RI.vf t)
theorem IsS.vfI {u : PV} {l : List Img} (h : IsS RI u l) : VF (.psl false (l.map Img.r)) u := by
  obtain ⟨es, h1, h2⟩ := h
  have hv := RI.vf h2
  rcases h1 with ⟨rfl, rfl⟩ | ⟨c, rfl⟩
  · cases h2; exact .nl false
  · exact .psl false c hv
theorem VF.imgs {l : List Img} {p : PV} (h : VF (.psl false (l.map Img.r)) p) : IsS RI p l := by
  generalize hq : l.map Img.r = es at h
  cases h with
  | base h => cases ‹PV.base _ = true›
  | psl b b' h =>
    subst hq
    rename_i ps
    refine ⟨_, .inr ⟨b', rfl⟩, ?_⟩
    induction l generalizing ps with
    | nil => cases h; exact .nil
    | cons a l ih =>
      cases h with
      | cons h t =>
        cases h with
        | cons h0 h =>
          cases h with
          | cons h1 h =>
            cases h
            rw [h0.base_eq rfl]
            exact .cons ⟨_, rfl, VF.bytes h1⟩ (ih t)
  | nl b =>
    have : l = [] := by cases l <;> first | rfl | cases hq
    subst this
    exact .nil
theorem chk_up : ∀ {g : List Img} {p : Option Int}, chk p g = true → Up g ∧ ∀ q, p = some q → ∀ m ∈ g, q < m.1
  | [], _, _ => ⟨.nil, fun _ _ m hm => by cases hm⟩
  | m :: g, p, h => by
    unfold chk at h
    rw [Bool.and_eq_true] at h
    obtain ⟨h1, h2⟩ := h
    obtain ⟨u1, u2⟩ := chk_up h2
    refine ⟨List.pairwise_cons.2 ⟨fun x hx => u2 _ rfl x hx, u1⟩, fun q hq x hx => ?_⟩
    subst hq
    unfold okI1 at h1
    simp only [Bool.and_eq_true, decide_eq_true_eq] at h1
    rcases List.mem_cons.1 hx with rfl | hx
    · exact h1.2.2.2
    · have := u2 _ rfl x hx
      have := h1.2.2.2
      omega
theorem appI_nil {l : List Img} (h : Up l) : appI l [] = l := appI_new (out := []) h
theorem may_up {g : List Img} (h : may g = true) : Up g := by
  unfold may at h
  simp only [Bool.and_eq_true] at h
  exact (chk_up h.2.2).1
section
variable {u v w : PV} {p g : List Img} {σ : Store}
theorem pureApply (hu : IsS RI u p) (hv : IsS RI v g) (hs : ∀ m ∈ p ++ g, Sm m) (h0 : 0 < p.length + g.length) (hl : p.length + g.length ≤ 1000) : ∃ x, pureω cfg 20 [u, v] = some x ∧ IsS RI x (appI (p ++ g) []) := by
  obtain ⟨x, h1, h2⟩ := pureK (spApply p g hs h0 hl) (.cons (IsS.vfI hu) (.cons (IsS.vfI hv) .nil))
  exact ⟨x, h1, VF.imgs h2⟩
theorem pureRApply (hu : IsS RI u p) (hv : IsS RI v g) (hp : Up p) (hl : p.length + g.length ≤ 1000) : ∃ x, pureω cfg 21 [u, v] = some x ∧ IsS RI x (appI g p) := by
  obtain ⟨x, h1, h2⟩ := pureK (spRApply p g hp hl) (.cons (IsS.vfI hu) (.cons (IsS.vfI hv) .nil))
  exact ⟨x, h1, VF.imgs h2⟩
theorem call2 {f : FuncId} {x : PV} (hm : cfg.mode f = .pure) (he : enters cfg.P f = true) (h1 : ∀ i ∈ tops u, Lf σ i) (h2 : ∀ i ∈ tops v, Lf σ i) (h : pureω cfg f [fz fuelFz σ u, fz fuelFz σ v] = some x) : ∃ τ, callE cfg (callω cfg) f [u, v] σ = some (x, τ) ∧ Rl σ τ :=
  callQ hm rfl he rfl h fun i hi => by
    simp only [tops.topss, List.append_nil, List.mem_append] at hi
    rcases hi with hi | hi
    · exact h1 i hi
    · exact h2 i hi
theorem spApplies {x y z : PV} {ps qs : List Int} {bs : List (List UInt8)} (hp : IsS RN x ps) (hb : IsS RBB y bs) (hq : IsS RN z qs) (hbl : ∀ b ∈ bs, b.length < 4611686018427387904) : ∃ σ', callω cfg 7 [x, y, z] .empty = some (.bool true, σ') := by
  have ev := eq7 (callω cfg) (loopω cfg) .empty x y z
  obtain ⟨u0, τ0, a1, a2, a3, a4⟩ := cEImages hp hb hbl .empty
  obtain ⟨u1, τ1, b1, b2, b3, b4⟩ := cEImages hq hb hbl τ0
  have a5 := a2.kp b3 fun j hj => by simp
  generalize hP : imgs ps bs = p at a5
  generalize hG : imgs qs bs = g at b2
  have hpl : p.length ≤ 9 := by rw [← hP]; exact imgs_len _ _
  have hgl : g.length ≤ 9 := by rw [← hG]; exact imgs_len _ _
  simp only [a1, bind_some', b1, cEMay (c2 := cfg) rfl rfl a5.q (by omega), asBool_bool] at ev
  by_cases c1 : may p = true
  · rw [if_neg (by rw [c1]; decide)] at ev
    simp only [cEMay (c2 := cfg) rfl rfl b2.q (by omega), bind_some', asBool_bool] at ev
    by_cases c2 : may g = true
    · rw [if_neg (by rw [c2]; decide)] at ev
      have hl1 := may_len c1
      have hl2 := may_len c2
      have hs : ∀ m ∈ p ++ g, Sm m := fun m hm => by
        rcases List.mem_append.1 hm with hm | hm
        · exact may_all c1 m hm
        · exact may_all c2 m hm
      have up := may_up c1
      have ug := may_up c2
      have e1 : appI (p ++ g) [] = appI g p := by rw [appI_app, appI_nil up]
      obtain ⟨x1, f1, f2⟩ := pureApply (a5.frz okI 6) (b2.frz okI 6) hs (by omega) (by omega)
      obtain ⟨τ2, g1, g2⟩ := call2 rfl (by kernel_rfl) (a5.lf okI) (b2.lf okI) f1
      obtain ⟨x2, k1, k2⟩ := pureRApply ((a5.rl g2).frz okI 6) ((b2.rl g2).frz okI 6) up (by omega)
      obtain ⟨τ3, m1, m2⟩ := call2 rfl (by kernel_rfl) ((a5.rl g2).lf okI) ((b2.rl g2).lf okI) k1
      rw [e1] at f2
      have hx : (appI g p).length ≤ 20 := Nat.le_trans (appI_len _ _) (by omega)
      have hux : Up (appI g p) := appI_up up
      have hsx : ∀ m ∈ appI g p ++ g, Sm m := fun m hm => by
        rcases List.mem_append.1 hm with hm | hm
        · rcases appI_mem hm with hm | hm
          · exact may_all c2 m hm
          · exact may_all c1 m hm
        · exact may_all c2 m hm
      have e2 : appI (appI g p ++ g) [] = appI g p := by
        rw [appI_app, appI_nil hux]
        exact appI_same hux fun m hm => appI_has ug hm
      have b6 := (b2.rl g2).rl m2
      obtain ⟨x3, q1, q2⟩ := pureApply (u := fz fuelFz τ3 x1) ((f2.q τ3 2).frz okI 6) (b6.frz okI 6) hsx (by omega) (by omega)
      obtain ⟨τ4, r1, r2⟩ := call2 rfl (by kernel_rfl) (fun i hi => by rw [f2.tops] at hi; cases hi) (b6.lf okI) q1
      rw [e2] at q2
      have b7 := b6.rl r2
      have e3 : appI ([] ++ g) [] = g := appI_nil ug
      obtain ⟨x4, s1, s2⟩ := pureApply (u := .nilsl) (p := []) IsS.nil (b7.frz okI 6) (by rw [List.nil_append]; exact fun m hm => may_all c2 m hm) (by simp; omega) (by simp; omega)
      obtain ⟨τ5, t1, t2⟩ := call2 (σ := τ4) (u := .nilsl) rfl (by kernel_rfl) (fun i hi => by cases hi) (b7.lf okI) s1
      rw [e3] at s2
      have b8 := b7.rl t2
      simp only [g1, m1, r1, t1, bind_some', cESame (c2 := cfg) rfl rfl (f2.q τ3 2) (k2.q τ3 2) (show (appI g p).length ≤ 1000000 by omega), cESame (c2 := cfg) rfl rfl (q2.q τ4 2) (f2.q τ4 2) (show (appI g p).length ≤ 1000000 by omega), cESame (c2 := cfg) rfl rfl (s2.q τ5 2) b8.q (show g.length ≤ 1000000 by omega), decide_true, asBool_bool, if_true, cEAwake (c2 := cfg) rfl rfl] at ev
      exact ⟨_, callω_ofK (hT _) ev⟩
    · rw [if_pos (by simpa using c2)] at ev
      simp only [cEAwake (c2 := cfg) rfl rfl, bind_some', asBool_bool] at ev
      exact ⟨_, callω_ofK (hT _) ev⟩
  · rw [if_pos (by simpa using c1)] at ev
    simp only [cEAwake (c2 := cfg) rfl rfl, bind_some', asBool_bool] at ev
    exact ⟨_, callω_ofK (hT _) ev⟩
end
end Go.Pvm.S
