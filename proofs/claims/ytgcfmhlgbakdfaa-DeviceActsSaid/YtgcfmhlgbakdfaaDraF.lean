/- Part of the proof: any acts, step by step. -/
import Derived.Test.YtgcfmhlgbakdfaaDraE
set_option linter.unusedSimpArgs false
set_option linter.unusedVariables false
set_option maxRecDepth 100000
namespace Go.Pvm.S
open Go.Pvm Go.Proofs
/-! ### Acts -/
def RA : ElR Ac := fun e a => ∃ u v, e = [.int .i64 a.d, .int .i64 a.g, u, .int .i64 a.n, v] ∧ IsS RB u a.b ∧ IsS RBo v a.p
theorem plA {u v : PV} (hu : u.plain = true) (hv : v.plain = true) (x y z : Int) : ∀ c ∈ [.int .i64 x, .int .i64 y, u, .int .i64 z, v], c.plain = true := by
  intro c hc
  simp only [List.mem_cons, List.not_mem_nil, or_false] at hc
  rcases hc with rfl | rfl | rfl | rfl | rfl
  · rfl
  · rfl
  · exact hu
  · rfl
  · exact hv
theorem okA : ROk 5 RA := ⟨fun e m h => by obtain ⟨u, v, rfl, _⟩ := h; rfl, fun e m h c hc => by
  obtain ⟨u, v, rfl, hu, hv⟩ := h
  exact plA hu.plain hv.plain _ _ _ c hc⟩
theorem TA : SlT Try.prog 46 56 5 72 := ⟨by kernel_rfl, by kernel_rfl, by kernel_rfl, ⟨.agg [.int .i64 0, .int .i64 0, .nilsl, .int .i64 0, .nilsl], by kernel_rfl, rfl, rfl⟩, by decide, by decide⟩
theorem ldAct (σ : Store) (a b c d e : PV) : loadv Try.prog σ 56 (.pref [a, b, c, d, e]) = some (.agg [a, b, c, d, e]) := by kernel_rfl
theorem szAct : szOf Try.prog 56 = some 5 := by kernel_rfl
theorem otBo : OneT Try.prog 23 := .of (by kernel_rfl) (by kernel_rfl)
theorem VF.bos {l : List Bool} {p : PV} (h : VF (.psl false (l.map bo)) p) : IsS RBo p l := by
  generalize hq : l.map bo = es at h
  cases h with
  | base h => cases ‹PV.base _ = true›
  | psl b b' h =>
    subst hq
    have hp := VFss_base (e := bo) (fun a => rfl) h
    subst hp
    refine ⟨_, .inr ⟨b', rfl⟩, ?_⟩
    clear h
    induction l with
    | nil => exact .nil
    | cons a l ih => exact .cons rfl ih
  | nl b =>
    have : l = [] := by cases l <;> first | rfl | cases hq
    subst this
    exact .nil
theorem VFs.act {a : Ac} {e : List PV} (h : VFs a.e e) : RA e a := by
  unfold Ac.e at h
  cases h with | cons a0 h => cases h with | cons a1 h => cases h with | cons a2 h => cases h with | cons a3 h => cases h with | cons a4 h =>
  cases h
  rw [a0.base_eq rfl, a1.base_eq rfl, a3.base_eq rfl]
  exact ⟨_, _, rfl, VF.by_ a2, VF.bos a4⟩
theorem VF.acts {l : List Ac} {p : PV} (h : VF (.psl false (l.map Ac.e)) p) : IsS RA p l := by
  generalize hq : l.map Ac.e = es at h
  cases h with
  | base h => cases ‹PV.base _ = true›
  | psl b b' h =>
    subst hq
    refine ⟨_, .inr ⟨b', rfl⟩, ?_⟩
    rename_i ps
    induction l generalizing ps with
    | nil => cases h; exact .nil
    | cons a l ih =>
      cases h with
      | cons h t => exact .cons (VFs.act h) (ih t)
  | nl b =>
    have : l = [] := by cases l <;> first | rfl | cases hq
    subst this
    exact .nil

/-! ### Both devices -/
theorem wsOf_len : ∀ l : List Pt, (wsOf l).length ≤ l.length
  | [] => Nat.le_refl _
  | u :: l => by
    rw [wsOf_cons]
    split
    · exact Nat.succ_le_succ (wsOf_len l)
    · exact Nat.le_succ_of_le (wsOf_len l)
theorem tsOf_len : ∀ l : List Pt, (tsOf l).length ≤ l.length
  | [] => Nat.le_refl _
  | u :: l => by
    rw [tsOf_cons]
    split
    · exact Nat.le_succ_of_le (tsOf_len l)
    · exact Nat.succ_le_succ (tsOf_len l)
theorem wsOf_mem : ∀ {l : List Pt} {u : Pt}, u ∈ l → 0 ≤ u.at_ → (u.at_, u.b) ∈ wsOf l
  | v :: l, u, h, h0 => by
    rw [wsOf_cons]
    rcases List.mem_cons.1 h with rfl | h
    · rw [if_pos h0]; exact .head _
    · have := wsOf_mem h h0
      split
      · exact .tail _ this
      · exact this
theorem Sim.wrF {page : Nat} {b : By} : ∀ (k i : Nat) (d : Dv) (r : Rf), Sim d r → Sim (Go.Pvm.S.wrF page b k i d) (rwF page b k i r)
  | 0, _, _, _, h => h
  | k + 1, i, d, r, h => Sim.wrF k (i + 1) _ _ (h.wr1 (((page * 4 + i : Nat) : Int), (b.drop (i * 128)).take 128) (by show (0 : Int) ≤ ((page * 4 + i : Nat) : Int); omega))
theorem rwF_len {page : Nat} {b : By} : ∀ (k i : Nat) (r : Rf), (rwF page b k i r).done.length ≤ r.done.length + k
  | 0, _, _ => Nat.le_refl _
  | k + 1, i, r => by
    have h1 := rwF_len k (i + 1) (r.act ⟨((page * 4 + i : Nat) : Int), (b.drop (i * 128)).take 128, false, 0⟩) (page := page) (b := b)
    have h2 := (act_same r ⟨((page * 4 + i : Nat) : Int), (b.drop (i * 128)).take 128, false, 0⟩).2.1
    show (rwF page b k (i + 1) _).done.length ≤ _
    omega
section
variable {σ : Store} {id wc : Nat} {g : Nat → Nat} {d : Dv} {r : Rf} {cs : List PV} {P : Nat} {T : Int}
theorem rokOf (hS : Sim d r) (hI : Inv P T d) (hP : P ≤ 64) (hT : T ≤ 900000000) {n : Nat} (hn : r.done.length ≤ n) : Rok P n r :=
  ⟨hP, by rw [hS.n]; exact hI.pl, by rw [hS.n]; exact ⟨hI.bs.1, by have := hI.bs.2; omega⟩, by rw [hS.n]; exact hI.st, hn, by rw [hS.a]; exact hI.arm, by rw [hS.k]; exact hI.kl⟩
theorem cokOf (hS : Sim d r) (hI : Inv P T d) (n : Int) : Cok P r.kept r.done n :=
  ⟨by rw [hS.k]; exact hI.kl, by rw [hS.k]; exact hI.kb.1, fun u hu h0 => (hI.ws _ (by rw [← hS.w]; exact wsOf_mem hu h0)).2, fun _ => by rw [hS.k, hS.t]; exact hI.ts, hS.p⟩
/-! ### The document's calls, made -/
theorem fzArgs {cs rest : List PV} (h1 : ∀ c ∈ cs, c.plain = true) (h2 : ∀ c ∈ rest, c.plain = true) (σ : Store) : (PV.agg cs :: rest).map (fz fuelFz σ) = .agg cs :: rest := by
  have h : rest.map (fz fuelFz σ) = rest := fz_plains h2 7 σ
  rw [List.map_cons, fzAgg h1, h]
theorem lfArgs {cs rest : List PV} (h1 : ∀ c ∈ cs, c.plain = true) (h2 : ∀ c ∈ rest, c.plain = true) : PV.lf.lfs (PV.agg cs :: rest) = true := by
  unfold PV.lf.lfs
  rw [lfAgg h1, lfsPl h2]
  rfl
theorem pl0 : ∀ c ∈ ([] : List PV), c.plain = true := fun c hc => by cases hc
theorem pl1 {v : PV} (h : v.plain = true) : ∀ c ∈ [v], c.plain = true := fun c hc => by rw [List.mem_singleton.1 hc]; exact h
theorem plq {v w : PV} (h : v.plain = true) (k : w.plain = true) : ∀ c ∈ [v, w], c.plain = true := fun c hc => by
  rcases List.mem_cons.1 hc with rfl | hc
  · exact h
  · rw [List.mem_singleton.1 hc]; exact k
theorem VF.tup2 {r : Rf} {e : Int} {p : PV} (h : VF (.tuple [.agg r.e, .int .i64 e]) p) : ∃ cs, p = .tuple [.agg cs, .int .i64 e] ∧ RC r cs := by
  cases h with
  | base h => cases ‹PV.base _ = true›
  | tuple h =>
    cases h with | cons a0 h => cases h with | cons a1 h =>
    cases h
    obtain ⟨cs, rfl, hc⟩ := RC.of a0
    rw [a1.base_eq rfl]
    exact ⟨cs, rfl, hc⟩
theorem cEPage {c2 : Cfg} (hm : c2.mode 22 = .pure) (hP : c2.P = Try.prog) {b : By} {u : PV} (hu : IsS RB u b) {p : By} (hp : pcall Cω 22 [bv b] = some (bv p)) (σ : Store) : ∃ w, callE c2 (callω cfg) 22 [u] σ = some (w, σ) ∧ IsS RB w p := by
  obtain ⟨w, h1, h2⟩ := callK hm hP (by kernel_rfl) hp (.cons (IsS.vf hu) .nil) (fun σ => fz_plains (pl1 hu.plain) 7 σ) (lfsPl (pl1 hu.plain)) σ
  exact ⟨w, h1, VF.by_ h2⟩
theorem cERWrite {c2 : Cfg} (hm : c2.mode 23 = .pure) (hP : c2.P = Try.prog) (hc : RC r cs) {n : Nat} (hr : Rok P n r) (hn : n + 4 ≤ 1000000) (page : Int) {b : By} {u : PV} (hu : IsS RB u b) (hb : b.length < 4611686018427387904) (σ : Store) :
    ∃ cs', callE c2 (callω cfg) 23 [.agg cs, .int .i64 page, u] σ = some (.tuple [.agg cs', .int .i64 (if 0 ≤ page ∧ page < P then (if b.length = 512 then 0 else 1) else 3)], σ) ∧ RC (if 0 ≤ page ∧ page < P ∧ b.length = 512 then rwF page.toNat b 4 0 r else r) cs' := by
  obtain ⟨p, h1, h2⟩ := callK hm hP (by kernel_rfl) (spRWrite hr hn page hb) (.cons (.agg hc.vf) (.cons (.base _ rfl) (.cons (IsS.vf hu) .nil))) (fzArgs hc.pl (plq rfl hu.plain)) (lfArgs hc.pl (plq rfl hu.plain)) σ
  obtain ⟨cs', rfl, h3⟩ := VF.tup2 h2
  exact ⟨cs', h1, h3⟩
theorem cERAppend {c2 : Cfg} (hm : c2.mode 24 = .pure) (hP : c2.P = Try.prog) (hc : RC r cs) (hd : r.done.length ≤ 1000000) (ha : r.armed ≤ 9223372036854775807) (hs : r.now.st.length ≤ 65536) {b : By} {u : PV} (hu : IsS RB u b) (hb : b.length < 4611686018427387904) (σ : Store) :
    ∃ cs', callE c2 (callω cfg) 24 [.agg cs, u] σ = some (.tuple [.agg cs', .int .i64 (if b.length + r.now.st.length ≤ 65536 then 0 else 10)], σ) ∧ RC (if b.length + r.now.st.length ≤ 65536 then r.act ⟨-1, b, false, 0⟩ else r) cs' := by
  obtain ⟨p, h1, h2⟩ := callK hm hP (by kernel_rfl) (spRAppend hd ha hs hb) (.cons (.agg hc.vf) (.cons (IsS.vf hu) .nil)) (fzArgs hc.pl (pl1 hu.plain)) (lfArgs hc.pl (pl1 hu.plain)) σ
  obtain ⟨cs', rfl, h3⟩ := VF.tup2 h2
  exact ⟨cs', h1, h3⟩
theorem cERTrim {c2 : Cfg} (hm : c2.mode 25 = .pure) (hP : c2.P = Try.prog) (hc : RC r cs) (hd : r.done.length ≤ 1000000) (ha : r.armed ≤ 9223372036854775807) (hs : r.now.st.length ≤ 65536) (hb : 0 ≤ r.now.base ∧ r.now.base ≤ 1000000000) {n : Int} (hn : n ≤ 9223372036854775807) (σ : Store) :
    ∃ cs', callE c2 (callω cfg) 25 [.agg cs, .int .i64 n] σ = some (.tuple [.agg cs', .int .i64 (if r.now.base ≤ n ∧ n ≤ r.now.base + r.now.st.length then 0 else 1)], σ) ∧ RC (if r.now.base ≤ n ∧ n ≤ r.now.base + r.now.st.length then r.act ⟨-1, [], true, n⟩ else r) cs' := by
  obtain ⟨p, h1, h2⟩ := callK hm hP (by kernel_rfl) (spRTrim hd ha hs hb hn) (.cons (.agg hc.vf) (.cons (.base _ rfl) .nil)) (fzArgs hc.pl (pl1 rfl)) (lfArgs hc.pl (pl1 rfl)) σ
  obtain ⟨cs', rfl, h3⟩ := VF.tup2 h2
  exact ⟨cs', h1, h3⟩
theorem cERSync {c2 : Cfg} (hm : c2.mode 26 = .pure) (hP : c2.P = Try.prog) (hc : RC r cs) (σ : Store) : ∃ cs', callE c2 (callω cfg) 26 [.agg cs] σ = some (.agg cs', σ) ∧ RC r.sync cs' := by
  obtain ⟨p, h1, h2⟩ := callK hm hP (by kernel_rfl) (spRSync r) (.cons (.agg hc.vf) .nil) (fzArgs hc.pl pl0) (lfArgs hc.pl pl0) σ
  obtain ⟨cs', rfl, h3⟩ := RC.of h2
  exact ⟨cs', h1, h3⟩
theorem cERArm {c2 : Cfg} (hm : c2.mode 27 = .pure) (hP : c2.P = Try.prog) (hc : RC r cs) (n : Int) (σ : Store) : ∃ cs', callE c2 (callω cfg) 27 [.agg cs, .int .i64 n] σ = some (.agg cs', σ) ∧ RC (r.arm n) cs' := by
  obtain ⟨p, h1, h2⟩ := callK hm hP (by kernel_rfl) (spRArm r n) (.cons (.agg hc.vf) (.cons (.base _ rfl) .nil)) (fzArgs hc.pl (pl1 rfl)) (lfArgs hc.pl (pl1 rfl)) σ
  obtain ⟨cs', rfl, h3⟩ := RC.of h2
  exact ⟨cs', h1, h3⟩
theorem cERCrash {c2 : Cfg} (hm : c2.mode 28 = .pure) (hP : c2.P = Try.prog) (hc : RC r cs) (hP4 : P ≤ 64) {pat : List Bool} {v : PV} (hv : IsS RBo v pat) (hpl : pat.length < 4611686018427387904) (hd : r.done.length ≤ 1000000) {n : Int} (hk : Cok P r.kept r.done n) (hn : -9223372036854775808 ≤ n ∧ n ≤ 9223372036854775807) (σ : Store) :
    ∃ cs', callE c2 (callω cfg) 28 [.agg cs, v, .int .i64 n] σ = some (.agg cs', σ) ∧ RC (r.crash pat n) cs' := by
  obtain ⟨p, h1, h2⟩ := callK hm hP (by kernel_rfl) (spRCrash hP4 hpl hd hk hn) (.cons (.agg hc.vf) (.cons (IsS.vfb hv) (.cons (.base _ rfl) .nil))) (fzArgs hc.pl (plq hv.plain rfl)) (lfArgs hc.pl (plq hv.plain rfl)) σ
  obtain ⟨cs', rfl, h3⟩ := RC.of h2
  exact ⟨cs', h1, h3⟩
/-- How it stands ahead of an act. -/
structure LI (P id wc i : Nat) (g : Nat → Nat) (σ : Store) (d : Dv) (r : Rf) (cs : List PV) : Prop where
  dv : DevS g σ id d
  sm : Sim d r
  rc : RC r cs
  iv : Inv P (65536 * (i : Int)) d
  dn : r.done.length ≤ 4 * i
  wo : σ.objs wc = some (.cells 0 [cs])
  wg : g wc = 8
  wn : wc < σ.next
/-- The document's device is laid into its variable, and both are alike. -/
theorem tailD {i : Nat} {cs' : List PV} {r' : Rf} (hP : P ≤ 4) (hi : i ≤ 40) (hdv : DevS g σ id d) (hsm : Sim d r') (hrc : RC r' cs') (hiv : Inv P (65536 * (i : Int)) d) (hdn : r'.done.length ≤ 4 * i) (hcs : cs.length = 9) (hwo : σ.objs wc = some (.cells 0 [cs])) (hwg : g wc = 8) (hwn : wc < σ.next) :
    ∃ s g' τ, storev Try.prog σ 53 (.ref wc 0 0) (.agg cs') = some s ∧ loadv Try.prog s 53 (.ref wc 0 0) = some (.agg cs') ∧ callE cfg (callω cfg) 29 [.ref id 0 0, .agg cs', .int .i64 (P : Nat)] s = some (.bool true, τ) ∧ LI P id wc i g' τ d r' cs' := by
  have hd := hdv.mod (Mod.put (σ := σ) (id := wc) (o := .cells 0 [cs']) (ids := [wc]) (.head _)) fun j hj _ => by rw [List.mem_singleton.1 hj, hwg]; decide
  have htl := tsOf_len r'.done
  rw [hsm.t] at htl
  obtain ⟨g', τ, h1, h2, h3⟩ := spLike hd hsm hrc hiv (by omega) (by omega) (by omega) (by omega)
  have hw : wc < (σ.put wc (.cells 0 [cs'])).next := hwn
  exact ⟨_, g', τ, stAgg szRDev hwo hcs hrc.ln (ones_plain hrc.pl), ldAgg aggRDev (put_obj _ _ _) hrc.ln, h1, h2, hsm, hrc, hiv, hdn, (h3.same hw (by rw [hwg]; exact Nat.le_refl _)).trans (put_obj _ _ _), (h3.2.1 wc hw).trans hwg, Nat.lt_of_lt_of_le hw h3.1⟩
/-- What an act must be. -/
def Aok (a : Ac) : Prop := a.b.length < 4611686018427387904 ∧ a.p.length < 4611686018427387904 ∧ -9223372036854775808 ≤ a.n ∧ a.n ≤ 9223372036854775807
end
end Go.Pvm.S
