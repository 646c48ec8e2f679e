/- Part of the proof: the document's calls, made by the program; is a device as it must be? -/
import Derived.Test.YtgcfmhlgbakdfaaDraD
set_option linter.unusedSimpArgs false
set_option linter.unusedVariables false
set_option maxRecDepth 100000
namespace Go.Pvm.S
open Go.Pvm Go.Proofs
theorem hTs : Tolds cfg := .none hT
theorem ownOk : OwnOk kcfg Try.prog (callω cfg) where
  own := by
    intro g sz h hg args es he
    have hg' : (none : Option (Nat × (List PV → Option (List (List PV))))) = some (sz, h) := hg
    cases hg'
  told := fun g u hu args σ => by
    have hu' : (none : Option Word) = some u := hu
    cases hu'
/-- A call of the document's, out of what is known over values alone. -/
theorem callK {c2 : Cfg} {g : FuncId} {a pa : List PV} {v : PV} (hm : c2.mode g = .pure) (hP : c2.P = Try.prog) (he : enters Try.prog g = true) (h : pcall Cω g a = some v) (ha : VFs a pa) (hf : ∀ σ, pa.map (fz fuelFz σ) = pa) (hl : PV.lf.lfs pa = true) (σ : Store) : ∃ p, callE c2 (callω cfg) g pa σ = some (p, σ) ∧ VF v p := by
  obtain ⟨p, τ, h1, h2⟩ := pcall_sound hTs ownOk h ha
  refine ⟨fz fuelFz τ p, callE_pure hm (by rw [hP]; exact he) (hf σ) ?_ (.inr hl), h2⟩
  unfold pureω
  rw [h1]
  rfl
theorem VF.pl {v p : PV} (h : VF v p) (hv : v.plain = true) : p.plain = true := by
  cases h <;> first | rfl | exact hv | cases hv
theorem VFs.pl {vs ps : List PV} (h : VFs vs ps) : (∀ c ∈ vs, c.plain = true) → ∀ c ∈ ps, c.plain = true := by
  intro hv c hc
  have h2 := h.all2
  clear h
  induction h2 with
  | nil => cases hc
  | cons h _ ih =>
    rcases List.mem_cons.1 hc with rfl | hc
    · exact VF.pl h (hv _ (.head _))
    · exact ih (fun c hc => hv c (.tail _ hc)) hc
theorem VFss_base {α : Type} {e : α → List PV} (he : ∀ a, (e a).all PV.base = true) : ∀ {l : List α} {ps : List (List PV)}, VFss (l.map e) ps → ps = l.map e := by
  intro l
  induction l with
  | nil => intro ps h; cases h; rfl
  | cons a l ih =>
    intro ps h
    cases h with
    | cons h t => rw [List.map_cons, h.base_eq (he a), ih t]
theorem VFss_refl {α : Type} {e : α → List PV} (he : ∀ a, VFs (e a) (e a)) : ∀ l : List α, VFss (l.map e) (l.map e)
  | [] => .nil
  | a :: l => .cons (he a) (VFss_refl he l)
/-- Bytes. -/
theorem VF.by_ {l : By} {p : PV} (h : VF (bv l) p) : IsS RB p l := by
  unfold bv at h
  generalize hq : l.map cB = es at h
  cases h with
  | base h => cases ‹PV.base _ = true›
  | psl b b' h =>
    subst hq
    have hp := VFss_base (e := cB) (fun a => rfl) h
    subst hp
    refine ⟨_, .inr ⟨b', rfl⟩, ?_⟩
    clear h
    induction l with
    | nil => exact .nil
    | cons a l ih => exact .cons rfl ih
  | nl b =>
    have : l = [] := by cases l <;> first | rfl | cases hq
    subst this
    exact .nil
theorem IsS.vf {l : By} {p : PV} (h : IsS RB p l) : VF (bv l) p := by
  obtain ⟨es, h1, h2⟩ := h
  have he : es = l.map cB := by
    clear h1
    induction h2 with
    | nil => rfl
    | cons h _ ih => rw [List.map_cons, ← ih, show _ = cB _ from h]
  rcases h1 with ⟨rfl, h3⟩ | ⟨b, rfl⟩
  · rw [h3] at he
    unfold bv
    rw [← he]
    exact .nl false
  · unfold bv
    rw [← he]
    refine .psl false b ?_
    rw [he]
    exact VFss_refl (fun a => .cons (.base _ rfl) .nil) l
theorem IsS.vfb {l : List Bool} {p : PV} (h : IsS RBo p l) : VF (.psl false (l.map bo)) p := by
  obtain ⟨es, h1, h2⟩ := h
  have he : es = l.map bo := by
    clear h1
    induction h2 with
    | nil => rfl
    | cons h _ ih => rw [List.map_cons, ← ih, show _ = bo _ from h]
  rcases h1 with ⟨rfl, h3⟩ | ⟨b, rfl⟩
  · rw [h3] at he
    rw [← he]
    exact .nl false
  · rw [← he]
    refine .psl false b ?_
    rw [he]
    exact VFss_refl (fun a => .cons (.base _ rfl) .nil) l
theorem fzAgg {cs : List PV} (h : ∀ c ∈ cs, c.plain = true) (σ : Store) : fz fuelFz σ (.agg cs) = .agg cs := by
  show PV.agg (cs.map (fz 7 σ)) = _
  rw [fz_plains h 6]
theorem lfsPl {cs : List PV} (h : ∀ c ∈ cs, c.plain = true) : PV.lf.lfs cs = true := by
  induction cs with
  | nil => rfl
  | cons c cs ih =>
    unfold PV.lf.lfs
    rw [lf_plain (h c (.head _)), ih fun c hc => h c (.tail _ hc)]
    rfl
theorem lfAgg {cs : List PV} (h : ∀ c ∈ cs, c.plain = true) : (PV.agg cs).lf = true := by
  unfold PV.lf
  exact lfsPl h
theorem ldAgg {σ : Store} {t : TypeId} {n i ro : Nat} {e : List PV} (h : AggT Try.prog t n) (ho : σ.objs i = some (.cells ro [e])) (he : e.length = n) : loadv Try.prog σ t (.ref i 0 0) = some (.agg e) := by rw [ldRef ho rfl, h.part he]
theorem stAgg {σ : Store} {t : TypeId} {n i : Nat} {e e' : List PV} (h : szOf Try.prog t = some n) (ho : σ.objs i = some (.cells 0 [e])) (he : e.length = n) (he' : e'.length = n) (h1 : e'.all PV.one = true) : storev Try.prog σ t (.ref i 0 0) (.agg e') = some (σ.put i (.cells 0 [e'])) :=
  stRef h ho (Nat.le_refl _) rfl he he' h1
theorem aggRDev : AggT Try.prog 53 9 := .of (by kernel_rfl) (by kernel_rfl)
theorem szRDev : szOf Try.prog 53 = some 9 := by kernel_rfl
theorem aggRDisk : AggT Try.prog 50 3 := .of (by kernel_rfl) (by kernel_rfl)
theorem szRDisk : szOf Try.prog 50 = some 3 := by kernel_rfl
/-- The cells that the document's device has. -/
structure RC (r : Rf) (cs : List PV) : Prop where
  vf : VFs r.e cs
theorem RC.pl {r : Rf} {cs : List PV} (h : RC r cs) : ∀ c ∈ cs, c.plain = true := VFs.pl h.vf (by
  intro c hc
  simp only [Rf.e, bv, List.mem_cons, List.not_mem_nil, or_false] at hc
  rcases hc with rfl | rfl | rfl | rfl | rfl | rfl | rfl | rfl | rfl <;> rfl)
theorem RC.ln {r : Rf} {cs : List PV} (h : RC r cs) : cs.length = 9 := h.vf.len.symm
theorem RC.of {r : Rf} {p : PV} (h : VF (.agg r.e) p) : ∃ cs, p = .agg cs ∧ RC r cs := by
  cases h with
  | base h => cases ‹PV.base _ = true›
  | agg h => exact ⟨_, rfl, ⟨h⟩⟩
theorem RC.form {r : Rf} {cs : List PV} (h : RC r cs) : ∃ p0 p2 p3 p5 p6, cs = [p0, .int .i64 r.kept.base, p2, p3, .int .i64 r.now.base, p5, p6, .bool r.gone, .int .i64 r.armed] := by
  obtain ⟨h⟩ := h
  unfold Rf.e at h
  cases h with | cons a0 h => cases h with | cons a1 h => cases h with | cons a2 h => cases h with | cons a3 h => cases h with | cons a4 h => cases h with | cons a5 h => cases h with | cons a6 h => cases h with | cons a7 h => cases h with | cons a8 h =>
  cases h
  rw [a1.base_eq rfl, a4.base_eq rfl, a7.base_eq rfl, a8.base_eq rfl]
  exact ⟨_, _, _, _, _, rfl⟩
theorem VF.dk {x : Dk} {p : PV} (h : VF (.agg x.e) p) : ∃ q0 q2, p = .agg [q0, .int .i64 x.base, q2] ∧ IsS RB q0 x.pg ∧ IsS RB q2 x.st := by
  cases h with
  | base h => cases ‹PV.base _ = true›
  | agg h =>
    unfold Dk.e at h
    cases h with | cons a0 h => cases h with | cons a1 h => cases h with | cons a2 h =>
    cases h
    rw [a1.base_eq rfl]
    exact ⟨_, _, rfl, VF.by_ a0, VF.by_ a2⟩
theorem strNe (l : By) : binv Try.prog .neq 9 (.str (strB l)) (.str (strB l)) = some (.bool false) := by
  simp [binv, strv]
section
variable {σ : Store} {id : Nat} {g : Nat → Nat} {d : Dv} {r : Rf} {cs : List PV} {P : Nat}
theorem cEGone {c2 : Cfg} (hm : c2.mode 41 = .pure) (hP : c2.P = Try.prog) (h : DevS g σ id d) : callE c2 (callω cfg) 41 [.ref id 0 0] σ = some (.bool d.gone, σ) := by
  obtain ⟨p, s, q, t, w, m, e1, e2, _⟩ := fzDev h
  refine callE_pure hm (by rw [hP]; kernel_rfl) (by simp only [List.map_cons, List.map_nil]; rw [e1]) ?_ (.inl rfl)
  have ev := eq41 (callω cfg) (loopω cfg) .empty p d.seen.base s q d.kept.base t w m d.armed d.gone
  have hb2 : ∀ l, binv Try.prog .neq 24 (.pref l) .nilptr = some (.bool true) := by intro l; kernel_rfl
  simp only [hb2, bind_some', asBool_bool, if_true] at ev
  exact pureω_of (hT _) ev rfl
theorem cESeen {c2 : Cfg} (hm : c2.mode 39 = .pure) (hP : c2.P = Try.prog) (h : RC r cs) (σ : Store) : ∃ q0 q2, callE c2 (callω cfg) 39 [.agg cs] σ = some (.agg [q0, .int .i64 r.now.base, q2], σ) ∧ IsS RB q0 r.now.pg ∧ IsS RB q2 r.now.st := by
  obtain ⟨p, h1, h2⟩ := callK hm hP (by kernel_rfl) (spSeen r) (.cons (.agg h.vf) .nil) (fun σ => by rw [List.map_cons, fzAgg h.pl]; rfl) (by unfold PV.lf.lfs; rw [lfAgg h.pl]; rfl) σ
  obtain ⟨q0, q2, rfl, h3, h4⟩ := VF.dk h2
  exact ⟨q0, q2, h1, h3, h4⟩
theorem cERPending {c2 : Cfg} (hm : c2.mode 40 = .pure) (hP : c2.P = Try.prog) (h : RC r cs) (hd : r.done.length ≤ 1000000) (hu : ∀ t ∈ tsOf r.done, t.units ≤ 1000000000) (σ : Store) : callE c2 (callω cfg) 40 [.agg cs] σ = some (.tuple [.int .i64 ((wsOf r.done).length : Nat), .int .i64 (sumU (tsOf r.done))], σ) := by
  obtain ⟨p, h1, h2⟩ := callK hm hP (by kernel_rfl) (spRPending r hd hu) (.cons (.agg h.vf) .nil) (fun σ => by rw [List.map_cons, fzAgg h.pl]; rfl) (by unfold PV.lf.lfs; rw [lfAgg h.pl]; rfl) σ
  cases h2 with
  | base h => cases ‹PV.base _ = true›
  | tuple h =>
    cases h with | cons a0 h => cases h with | cons a1 h =>
    cases h
    rw [a0.base_eq rfl, a1.base_eq rfl] at h1
    exact h1
/-- Each page, as it must be. -/
theorem lpLike {q0 q2 : PV} {bs : Int} {i1 : Nat} (hP : P ≤ 64) (hl : d.seen.pg.length = 512 * P) (hq : IsS RB q0 d.seen.pg) : ∀ (k i : Nat) (g : Nat → Nat) (σ : Store), i + k = P → DevS g σ id d → i1 < σ.next → 7 ≤ g i1 → (∃ ro, σ.objs i1 = some (.cells ro [[q0, .int .i64 bs, q2]])) →
    ∃ g' τ, loopω cfg 29 lc29_8 (st29_8 (.ref id 0 0) (P : Nat) (.ref i1 0 0) (i : Nat)) σ = some (.exit 0, out29_8 (.ref id 0 0) (P : Nat), τ) ∧ DevS g' τ id d ∧ Out g σ g' τ
  | 0, i, g, σ, hi, h, hn, h7, ho => by
    refine ⟨g, σ, loopω_ofK ((lq29_8 _ _ _ _ _ _ _).trans ?_), h, Out.refl _ _⟩
    rw [if_neg (by rw [decide_eq_true_eq]; omega)]
  | k + 1, i, g, σ, hi, h, hn, h7, ho => by
    obtain ⟨g1, τ, u, a1, a2, a3, a4, a5⟩ := spRead h (P := P) (by omega) hl (page := i) (by omega)
    obtain ⟨ro, ho⟩ := ho
    obtain ⟨ro', ho'⟩ := a5.get hn h7 ho
    have c1 : callE cfg (callω cfg) 14 [.ref id 0 0, .int .i64 (i : Nat)] σ = some (.tuple [u, .int .i64 0], τ) := by rw [callE_live rfl (by kernel_rfl)]; exact a1
    have w1 : IntKind.wrap .i64 (512 * ((i : Nat) : Int)) = ((i * 512 : Nat) : Int) := by rw [wrapId (by omega) (by omega)]; omega
    have w2 : IntKind.wrap .i64 (((i * 512 : Nat) : Int) + 512) = ((i * 512 + 512 : Nat) : Int) := by rw [wrapId (by omega) (by omega)]; omega
    obtain ⟨v', k1, k2⟩ := hq.cut TB okB (lo := some (.int .i64 ((i * 512 : Nat) : Int))) (hi := some (.int .i64 ((i * 512 + 512 : Nat) : Int))) (numOf_nat .i64 _ 0) (numOf_nat .i64 _ _) (by omega) (by omega)
    rw [show i * 512 + 512 - i * 512 = 512 by omega] at k2
    have fa : fieldAddrv Try.prog 50 (.ref i1 0 0) 0 = some (.ref i1 0 0) := by kernel_rfl
    have l0 := ldOne (σ := τ) (off := 0) otB ho' rfl
    have s1 := a2.str uStr TB uB
    have s2 := k2.str uStr TB uB τ
    have ev := lq29_8 (callω cfg) (loopω cfg) σ (.ref id 0 0) (P : Nat) (.ref i1 0 0) (i : Nat)
    have n0 : ((0 : Int) != 0) = false := by decide
    rw [if_pos (by rw [decide_eq_true_eq]; omega)] at ev
    simp only [c1, bind_some', tupv_0, tupv_1, asInt_int, n0, Bool.false_eq_true, if_false, s1, asStr_str, fa, l0, w1, w2, k1, s2, strNe, asBool_bool, wrap_succ (show i < 4611686018427387904 by omega)] at ev
    obtain ⟨g2, τ2, b1, b2, b3⟩ := lpLike hP hl hq k (i + 1) g1 τ (by omega) a4 (Nat.lt_of_lt_of_le hn a5.1) (by rw [a5.2.1 i1 hn]; exact h7) ⟨ro', ho'⟩
    exact ⟨g2, τ2, loopω_ofK (ev.trans b1), b2, a5.trans b3⟩
theorem spLike (h : DevS g σ id d) (hS : Sim d r) (hc : RC r cs) {T : Int} (hI : Inv P T d) (hP : P ≤ 64) (hT' : T ≤ 900000000) (hd : r.done.length ≤ 1000000) (h2 : d.ts.length ≤ 1000000) :
    ∃ g' τ, callE cfg (callω cfg) 29 [.ref id 0 0, .agg cs, .int .i64 (P : Nat)] σ = some (.bool true, τ) ∧ DevS g' τ id d ∧ Out g σ g' τ := by
  obtain ⟨p0, p2, p3, p5, p6, rfl⟩ := hc.form
  have ev := eq29 (callω cfg) (loopω cfg) σ id 0 0 p0 r.kept.base p2 p3 r.now.base p5 p6 r.gone r.armed (P : Nat)
  have hcl := hc.ln
  have hun := oks_units _ _ hI.ts
  have hnow := hS.n
  -- the copy of the document's device
  obtain ⟨b1, b2, b3⟩ := h.box (.cells 0 [[p0, .int .i64 r.kept.base, p2, p3, .int .i64 r.now.base, p5, p6, .bool r.gone, .int .i64 r.armed]])
  have o1 : (σ.push (.cells 0 [[p0, .int .i64 r.kept.base, p2, p3, .int .i64 r.now.base, p5, p6, .bool r.gone, .int .i64 r.armed]])).objs σ.next = some (.cells 0 [[p0, .int .i64 r.kept.base, p2, p3, .int .i64 r.now.base, p5, p6, .bool r.gone, .int .i64 r.armed]]) := push_obj _ _
  have n1 : σ.next < (σ.push (.cells 0 [[p0, .int .i64 r.kept.base, p2, p3, .int .i64 r.now.base, p5, p6, .bool r.gone, .int .i64 r.armed]])).next := Nat.lt_succ_self _
  generalize hs1 : σ.push (.cells 0 [[p0, .int .i64 r.kept.base, p2, p3, .int .i64 r.now.base, p5, p6, .bool r.gone, .int .i64 r.armed]]) = S1 at ev b1 b2 o1 n1
  generalize tag g σ.next 7 = g1 at b1 b2 b3
  have e1 := ldAgg aggRDev o1 hcl
  obtain ⟨q0, q2, e2, e3, e4⟩ := cESeen (c2 := cfg) rfl rfl hc S1
  -- the disk that is seen
  obtain ⟨d1, d2, d3⟩ := b1.box (.cells 0 [[.nilsl, .int .i64 0, .nilsl]])
  have o2 : (S1.push (.cells 0 [[.nilsl, .int .i64 0, .nilsl]])).objs S1.next = some (.cells 0 [[.nilsl, .int .i64 0, .nilsl]]) := push_obj _ _
  have e5 := stAgg (e' := [q0, .int .i64 r.now.base, q2]) szRDisk o2 rfl rfl (ones_plain (by
    intro c hc
    rcases List.mem_cons.1 hc with rfl | hc
    · exact e3.plain
    rcases List.mem_cons.1 hc with rfl | hc
    · rfl
    · rw [List.mem_singleton.1 hc]; exact e4.plain))
  have hm : Mod (S1.push (.cells 0 [[.nilsl, .int .i64 0, .nilsl]])) ((S1.push (.cells 0 [[.nilsl, .int .i64 0, .nilsl]])).put S1.next (.cells 0 [[q0, .int .i64 r.now.base, q2]])) [S1.next] := Mod.put (.head _)
  have f1 : DevS (tag g1 S1.next 7) ((S1.push (.cells 0 [[.nilsl, .int .i64 0, .nilsl]])).put S1.next (.cells 0 [[q0, .int .i64 r.now.base, q2]])) id d := d1.mod hm fun i hi _ => by rw [List.mem_singleton.1 hi, d3]; exact Nat.le_refl _
  have o3 : ((S1.push (.cells 0 [[.nilsl, .int .i64 0, .nilsl]])).put S1.next (.cells 0 [[q0, .int .i64 r.now.base, q2]])).objs S1.next = some (.cells 0 [[q0, .int .i64 r.now.base, q2]]) := put_obj _ _ _
  have o4 : ((S1.push (.cells 0 [[.nilsl, .int .i64 0, .nilsl]])).put S1.next (.cells 0 [[q0, .int .i64 r.now.base, q2]])).objs σ.next = some (.cells 0 [[p0, .int .i64 r.kept.base, p2, p3, .int .i64 r.now.base, p5, p6, .bool r.gone, .int .i64 r.armed]]) := by
    rw [put_other (by omega), push_old n1]; exact o1
  have t1 : tag g1 S1.next 7 σ.next = 7 := by rw [tag_old n1]; exact b3
  -- what was there stays, but what is written here
  have u1 : Out g1 S1 (tag g1 S1.next 7) ((S1.push (.cells 0 [[.nilsl, .int .i64 0, .nilsl]])).put S1.next (.cells 0 [[q0, .int .i64 r.now.base, q2]])) := ⟨Nat.le_succ _, fun i hi => tag_old hi, fun i hi _ => .inl (by rw [put_other (by omega), push_old hi])⟩
  have n3 : S1.next < ((S1.push (.cells 0 [[.nilsl, .int .i64 0, .nilsl]])).put S1.next (.cells 0 [[q0, .int .i64 r.now.base, q2]])).next := Nat.lt_succ_self _
  have n4 : σ.next < ((S1.push (.cells 0 [[.nilsl, .int .i64 0, .nilsl]])).put S1.next (.cells 0 [[q0, .int .i64 r.now.base, q2]])).next := Nat.lt_succ_of_lt n1
  simp only [e1, bind_some', e2, e5] at ev
  generalize (S1.push (.cells 0 [[.nilsl, .int .i64 0, .nilsl]])).put S1.next (.cells 0 [[q0, .int .i64 r.now.base, q2]]) = S2 at ev f1 o3 o4 u1 n3 n4
  generalize tag g1 S1.next 7 = g2 at f1 t1 u1 d3
  have hst := hI.st
  obtain ⟨g3, S3, u, j1, j2, j3, j4, j5⟩ := spStream f1 (by omega)
  have c1 : callE cfg (callω cfg) 17 [.ref id 0 0] S2 = some (.tuple [.int .i64 d.seen.base, u], S3) := by rw [callE_live rfl (by kernel_rfl)]; exact j1
  have c2 := cEPending (c2 := cfg) rfl rfl j4 h2 hun
  obtain ⟨ro1, o5⟩ := j5.get n4 (by rw [t1]; exact Nat.le_refl _) o4
  obtain ⟨ro2, o6⟩ := j5.get n3 (by rw [d3]; exact Nat.le_refl _) o3
  have e6 := ldAgg aggRDev o5 hcl
  have c3 := cERPending (c2 := cfg) rfl rfl hc hd (by rw [hS.t]; exact hun) S3
  rw [hS.w, hS.t] at c3
  have e7 := ldOne (σ := S3) (off := 0 + 1) oInt o6 rfl
  have e8 := ldOne (σ := S3) (off := 0 + 2) otB o6 rfl
  have e9 := ldOne (σ := S3) (off := 0 + 7) oBool o5 rfl
  rw [hnow] at e3 e4 e7
  have s1 := j2.str uStr TB uB
  have s2 := e4.str uStr TB uB S3
  have c4 := cEGone (c2 := cfgS) rfl rfl j4
  have c5 := cEPages (c2 := cfgS) rfl rfl j4 hI.pl hI.hP.2
  have bb : (d.seen.base != d.seen.base) = false := bne_self_eq_false _
  have wb : (((d.ws.length : Nat) : Int) != ((d.ws.length : Nat) : Int)) = false := bne_self_eq_false _
  have sb : (sumU d.ts != sumU d.ts) = false := bne_self_eq_false _
  have pb : (((P : Nat) : Int) != ((P : Nat) : Int)) = false := bne_self_eq_false _
  have gb : (!(d.gone == r.gone)) = false := by rw [hS.g]; simp
  obtain ⟨g4, S4, k1, k2, k3⟩ := lpLike (i1 := S1.next) (q2 := q2) (bs := d.seen.base) hP hI.pl e3 P 0 g3 S3 (by omega) j4 (Nat.lt_of_lt_of_le n3 j5.1) (by rw [j5.2.1 _ n3, d3]; exact Nat.le_refl _) ⟨ro2, by rw [← hnow]; exact o6⟩
  rw [natz] at k1
  have c6 : callE cfg (callω cfg) 14 [.ref id 0 0, .int .i64 (P : Nat)] S4 = some (.tuple [.nilsl, .int .i64 3], S4) := by rw [callE_live rfl (by kernel_rfl)]; exact spReadNo k2 hI.hP.2 hI.pl (.inr (Int.le_refl _))
  simp only [c1, bind_some', tupv_0, tupv_1, asInt_int, c2, e6, c3, e7, bb, Bool.false_eq_true, if_false, s1, asStr_str, e8, s2, strNe, asBool_bool, wb, sb, c4, e9, gb, c5, pb, k1, onEx_exit, if_true, out29_8_0, out29_8_2, c6] at ev
  have h33 : ((3 : Int) == 3) = true := by decide
  rw [h33] at ev
  refine ⟨g4, S4, ?_, k2, b2.trans (u1.trans (j5.trans k3))⟩
  rw [callE_live rfl (by kernel_rfl)]
  exact callω_ofK (hT _) ev
end
end Go.Pvm.S
