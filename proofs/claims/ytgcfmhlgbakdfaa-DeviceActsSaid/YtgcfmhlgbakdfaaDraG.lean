/- Part of the proof: any acts: the loop, and the law. -/
import Derived.Test.YtgcfmhlgbakdfaaDraF
set_option linter.unusedSimpArgs false
set_option linter.unusedVariables false
set_option maxRecDepth 100000
namespace Go.Pvm.S
open Go.Pvm Go.Proofs
section
variable {id wc : Nat} {P : Nat}
/-- The same answer, in whichever way the call is made. -/
theorem cERWrites {r : Rf} {cs : List PV} (hc : RC r cs) {n : Nat} (hr : Rok P n r) (hn : n + 4 ≤ 1000000) (page : Int) {b : By} {u : PV} (hu : IsS RB u b) (hb : b.length < 4611686018427387904) (σ : Store) :
    ∃ cs', (∀ c2 : Cfg, c2.mode 23 = .pure → c2.P = Try.prog → callE c2 (callω cfg) 23 [.agg cs, .int .i64 page, u] σ = some (.tuple [.agg cs', .int .i64 (if 0 ≤ page ∧ page < P then (if b.length = 512 then 0 else 1) else 3)], σ)) ∧ RC (if 0 ≤ page ∧ page < P ∧ b.length = 512 then rwF page.toNat b 4 0 r else r) cs' := by
  obtain ⟨p, τ, h1, h2⟩ := pcall_sound hTs ownOk (spRWrite hr hn page hb) (.cons (.agg hc.vf) (.cons (.base _ rfl) (.cons (IsS.vf hu) .nil)))
  obtain ⟨cs', h4, h3⟩ := VF.tup2 h2
  refine ⟨cs', fun c2 hm hP => callE_pure hm (by rw [hP]; kernel_rfl) (fzArgs hc.pl (plq rfl hu.plain) σ) ?_ (.inr (lfArgs hc.pl (plq rfl hu.plain))), h3⟩
  unfold pureω
  rw [h1]
  exact congrArg some h4
theorem lpActs {l : List Ac} {y : PV} (hP1 : 1 ≤ P) (hP : P ≤ 4) (hy : IsS RA y l) (hl : l.length < 4611686018427387904) (hq : ∀ a ∈ l, Aok a) : ∀ (k i : Nat) (g : Nat → Nat) (σ : Store) (d : Dv) (r : Rf) (cs : List PV), i + k = 40 → LI P id wc i g σ d r cs →
    ∃ τ, loopω cfg 6 lc6_10 (st6_10 (P : Nat) y (.ref id 0 0) (.ref wc 0 0) (i : Nat)) σ = some (.exit 0, out6_10, τ)
  | k, i, g, σ, d, r, cs, hi, h => by
    have ev := lq6_10 (callω cfg) (loopω cfg) σ (P : Nat) y (.ref id 0 0) (.ref wc 0 0) (i : Nat)
    rw [hy.len TA, bind_some', asInt_int] at ev
    by_cases hil : i < l.length
    case neg =>
      rw [if_neg (by rw [decide_eq_true_eq]; omega)] at ev
      exact ⟨σ, loopω_ofK ev⟩
    rw [if_pos (by rw [decide_eq_true_eq]; omega)] at ev
    cases k with
    | zero =>
      rw [if_neg (by rw [decide_eq_true_eq]; omega)] at ev
      exact ⟨σ, loopω_ofK ev⟩
    | succ k =>
    rw [if_pos (by rw [decide_eq_true_eq]; omega)] at ev
    have hw := List.getElem?_eq_getElem hil
    obtain ⟨e, k1, u, v, rfl, hu, hv⟩ := hy.idx TA okA hw .i64
    have hok := hq _ (List.getElem_mem hil)
    generalize l[i] = a at k1 hu hv hok
    obtain ⟨q1, q2, q3, q4⟩ := hok
    have hD : r.done.length ≤ 1000000 := by have := h.dn; omega
    have htl := tsOf_len r.done
    have hwl := wsOf_len r.done
    rw [h.sm.t] at htl
    rw [h.sm.w] at hwl
    have hdn := h.dn
    have hI := h.iv
    have hT : (65536 * (i : Int)) ≤ 900000000 := by omega
    have hTm : (65536 * (i : Int)) ≤ 65536 * ((i + 1 : Nat) : Int) := by omega
    have harm := hI.arm
    have hbs := hI.bs
    have hst := hI.st
    have hnow := h.sm.n
    have hra : r.armed ≤ 9223372036854775807 := by rw [h.sm.a]; exact harm.2
    -- the act's variable
    obtain ⟨x1, x2, x3⟩ := h.dv.box (.cells 0 [[.int .i64 0, .int .i64 0, .nilsl, .int .i64 0, .nilsl]])
    have o1 : (σ.push (.cells 0 [[.int .i64 0, .int .i64 0, .nilsl, .int .i64 0, .nilsl]])).objs σ.next = some (.cells 0 [[.int .i64 0, .int .i64 0, .nilsl, .int .i64 0, .nilsl]]) := push_obj _ _
    have e1 := stAgg (e' := [.int .i64 a.d, .int .i64 a.g, u, .int .i64 a.n, v]) szAct o1 rfl rfl (ones_plain (plA hu.plain hv.plain _ _ _))
    have y1 := x1.mod (Mod.put (σ := σ.push (.cells 0 [[.int .i64 0, .int .i64 0, .nilsl, .int .i64 0, .nilsl]])) (id := σ.next) (o := .cells 0 [[.int .i64 a.d, .int .i64 a.g, u, .int .i64 a.n, v]]) (ids := [σ.next]) (.head _)) fun j hj _ => by rw [List.mem_singleton.1 hj, x3]; exact Nat.le_refl _
    have o2 : ((σ.push (.cells 0 [[.int .i64 0, .int .i64 0, .nilsl, .int .i64 0, .nilsl]])).put σ.next (.cells 0 [[.int .i64 a.d, .int .i64 a.g, u, .int .i64 a.n, v]])).objs σ.next = some (.cells 0 [[.int .i64 a.d, .int .i64 a.g, u, .int .i64 a.n, v]]) := put_obj _ _ _
    have hwn := h.wn
    have o3 : ((σ.push (.cells 0 [[.int .i64 0, .int .i64 0, .nilsl, .int .i64 0, .nilsl]])).put σ.next (.cells 0 [[.int .i64 a.d, .int .i64 a.g, u, .int .i64 a.n, v]])).objs wc = some (.cells 0 [cs]) := by rw [put_other (by omega), push_old hwn]; exact h.wo
    have n1 : wc < ((σ.push (.cells 0 [[.int .i64 0, .int .i64 0, .nilsl, .int .i64 0, .nilsl]])).put σ.next (.cells 0 [[.int .i64 a.d, .int .i64 a.g, u, .int .i64 a.n, v]])).next := Nat.lt_succ_of_lt hwn
    have n2 : σ.next < ((σ.push (.cells 0 [[.int .i64 0, .int .i64 0, .nilsl, .int .i64 0, .nilsl]])).put σ.next (.cells 0 [[.int .i64 a.d, .int .i64 a.g, u, .int .i64 a.n, v]])).next := Nat.lt_succ_self _
    have t1 : tag g σ.next 7 wc = 8 := by rw [tag_old hwn]; exact h.wg
    simp only [k1, bind_some', ldAct, e1] at ev
    generalize hS : (σ.push (.cells 0 [[.int .i64 0, .int .i64 0, .nilsl, .int .i64 0, .nilsl]])).put σ.next (.cells 0 [[.int .i64 a.d, .int .i64 a.g, u, .int .i64 a.n, v]]) = S at ev y1 o2 o3 n1 n2
    generalize tag g σ.next 7 = G at y1 t1 x3
    generalize σ.next = xc at ev o2 n2 x3
    have f0 := ldOne (σ := S) (off := 0 + 0) oInt o2 rfl
    have f1 := ldOne (σ := S) (off := 0 + 1) oInt o2 rfl
    have f2 := ldOne (σ := S) (off := 0 + 2) otB o2 rfl
    have f3 := ldOne (σ := S) (off := 0 + 3) oInt o2 rfl
    have f4 := ldOne (σ := S) (off := 0 + 4) otBo o2 rfl
    simp only [f0, bind_some', asInt_int] at ev
    -- behind a call: what was there
    have after : ∀ {g' : Nat → Nat} {τ : Store}, Out G S g' τ → τ.objs wc = some (.cells 0 [cs]) ∧ g' wc = 8 ∧ wc < τ.next ∧ loadv Try.prog τ 53 (.ref wc 0 0) = some (.agg cs) ∧ loadv Try.prog τ 3 (.ref xc 0 (0 + 1)) = some (.int .i64 a.g) ∧ loadv Try.prog τ 30 (.ref xc 0 (0 + 2)) = some u ∧ loadv Try.prog τ 3 (.ref xc 0 (0 + 3)) = some (.int .i64 a.n) ∧ loadv Try.prog τ 23 (.ref xc 0 (0 + 4)) = some v := fun {g' τ} ho => by
      have w1 := (ho.same n1 (by rw [t1]; exact Nat.le_refl _)).trans o3
      obtain ⟨ro, w2⟩ := ho.get n2 (by rw [x3]; exact Nat.le_refl _) o2
      exact ⟨w1, (ho.2.1 wc n1).trans t1, Nat.lt_of_lt_of_le n1 ho.1, ldAgg aggRDev w1 h.rc.ln, ldOne (off := 0 + 1) oInt w2 rfl, ldOne (off := 0 + 2) otB w2 rfl, ldOne (off := 0 + 3) oInt w2 rfl, ldOne (off := 0 + 4) otBo w2 rfl⟩
    have wi : IntKind.wrap .i64 (((i : Nat) : Int) + 1) = ((i + 1 : Nat) : Int) := wrap_succ (by omega)
    have fin : ∀ {g' : Nat → Nat} {τ : Store} {d' : Dv} {r' : Rf} {cs' : List PV}, stepKL cfg (callω cfg) (loopω cfg) 6 lc6_10 (st6_10 (P : Nat) y (.ref id 0 0) (.ref wc 0 0) (i : Nat)) σ = loopω cfg 6 lc6_10 (st6_10 (P : Nat) y (.ref id 0 0) (.ref wc 0 0) ((i + 1 : Nat) : Int)) τ → LI P id wc (i + 1) g' τ d' r' cs' → ∃ τ, loopω cfg 6 lc6_10 (st6_10 (P : Nat) y (.ref id 0 0) (.ref wc 0 0) (i : Nat)) σ = some (.exit 0, out6_10, τ) := fun {g' τ d' r' cs'} he hL => by
      obtain ⟨τ', h1⟩ := lpActs hP1 hP hy hl hq k (i + 1) g' τ d' r' cs' (by omega) hL
      exact ⟨τ', loopω_ofK (he.trans h1)⟩
    -- a page is written, of any bytes
    have wr : ∀ {b : By} {w w' : PV}, IsS RB w b → IsS RB w' b → b.length < 4611686018427387904 → ∃ g5 S5 cs' s g' τ d' r', callE cfg (callω cfg) 9 [.ref id 0 0, .int .i64 a.g, w] S = some (.int .i64 (if 0 ≤ a.g ∧ a.g < P then (if b.length = 512 then 0 else 1) else 3), S5) ∧ callE cfgS (callω cfg) 9 [.ref id 0 0, .int .i64 a.g, w] S = some (.int .i64 (if 0 ≤ a.g ∧ a.g < P then (if b.length = 512 then 0 else 1) else 3), S5) ∧ Out G S g5 S5 ∧
        callE cfg (callω cfg) 23 [.agg cs, .int .i64 a.g, w'] S5 = some (.tuple [.agg cs', .int .i64 (if 0 ≤ a.g ∧ a.g < P then (if b.length = 512 then 0 else 1) else 3)], S5) ∧ callE cfgS (callω cfg) 23 [.agg cs, .int .i64 a.g, w'] S5 = some (.tuple [.agg cs', .int .i64 (if 0 ≤ a.g ∧ a.g < P then (if b.length = 512 then 0 else 1) else 3)], S5) ∧
        storev Try.prog S5 53 (.ref wc 0 0) (.agg cs') = some s ∧ loadv Try.prog s 53 (.ref wc 0 0) = some (.agg cs') ∧ callE cfg (callω cfg) 29 [.ref id 0 0, .agg cs', .int .i64 (P : Nat)] s = some (.bool true, τ) ∧ LI P id wc (i + 1) g' τ d' r' cs' := fun {b w w'} hw hw' hb => by
      obtain ⟨g5, S5, z1, z2, z3⟩ := spWrite hw y1 (P := P) (by omega) hI.pl harm (by omega) a.g hb
      obtain ⟨w1, w2, w3, _⟩ := after z3
      have hrk := rokOf h.sm hI (by omega) hT h.dn
      obtain ⟨cs', c1, c2⟩ := cERWrites h.rc hrk (by omega) a.g hw' hb S5
      have c3 : Sim (if 0 ≤ a.g ∧ a.g < P ∧ b.length = 512 then wrF a.g.toNat b 4 0 d else d) (if 0 ≤ a.g ∧ a.g < P ∧ b.length = 512 then rwF a.g.toNat b 4 0 r else r) := by
        split
        · exact h.sm.wrF 4 0 d r
        · exact h.sm
      have c4 : Inv P (65536 * ((i + 1 : Nat) : Int)) (if 0 ≤ a.g ∧ a.g < P ∧ b.length = 512 then wrF a.g.toNat b 4 0 d else d) := by
        refine Inv.mono ?_ hTm
        split
        · rename_i hc
          exact Inv.wrF (by omega) hc.2.2 4 0 d (by omega) hI
        · exact hI
      have c5 : (if 0 ≤ a.g ∧ a.g < P ∧ b.length = 512 then rwF a.g.toNat b 4 0 r else r).done.length ≤ 4 * (i + 1) := by
        split
        · have := rwF_len (page := a.g.toNat) (b := b) 4 0 r; omega
        · omega
      obtain ⟨s, g', τ, m1, m2, m3, m4⟩ := tailD hP (by omega) z2 c3 c2 c4 c5 h.rc.ln w1 w2 w3
      exact ⟨g5, S5, cs', s, g', τ, _, _, by rw [callE_live rfl (by kernel_rfl)]; exact z1, by rw [callE_live rfl (by kernel_rfl)]; exact z1, z3, c1 cfg rfl rfl, c1 cfgS rfl rfl, m1, m2, m3, m4⟩
    have ff : (!true) = false := rfl
    by_cases d0 : a.d = 0
    · obtain ⟨p, p1, p2⟩ := spPage a.b q1
      obtain ⟨w, j1, j2⟩ := cEPage (c2 := cfgS) rfl rfl hu p2 S
      have hx : ∀ σ, ∃ w, callE cfgS (callω cfg) 22 [u] σ = some (w, σ) ∧ IsS RB w p := fun σ => cEPage (c2 := cfgS) rfl rfl hu p2 σ
      obtain ⟨g5, S5, z1, z2, z3⟩ := spWrite j2 y1 (P := P) (by omega) hI.pl harm (by omega) a.g (by omega)
      obtain ⟨w', j3, j4⟩ := hx S5
      obtain ⟨_, S5', cs', s, g', τ, d', r', m1, m2, m3, m4, m5, m6, m7, m8, m9⟩ := wr j2 j4 (by omega)
      have hS5 : S5' = S5 := by
        rw [callE_live rfl (by kernel_rfl), z1] at m1
        cases m1; rfl
      subst hS5
      obtain ⟨w1, w2, w3, l0, l1, l2, l3, l4⟩ := after m3
      rw [d0] at ev
      simp only [beq_self_eq_true, if_true, f1, f2, bind_some', asInt_int, j1, m2, l0, l1, l2, j3, m5, tupv_0, tupv_1, m6, bne_self_eq_false, Bool.false_eq_true, if_false, m7, m8, asBool_bool, ff, wi] at ev
      exact fin ev m9
    rw [if_neg (by rw [beq_iff_eq]; exact d0)] at ev
    by_cases d1 : a.d = 1
    · obtain ⟨g5, S5, z1, z2, z3⟩ := spAppend y1 (hu.q S 1) (fun j hj => by rw [hu.tops] at hj; cases hj) (fun j hj => by rw [hu.tops] at hj; cases hj) hI.hP hI.pl hst ⟨hbs.1, by omega⟩ harm (by omega) q1
      obtain ⟨w1, w2, w3, l0, l1, l2, l3, l4⟩ := after z3
      have m1 : callE cfg (callω cfg) 15 [.ref id 0 0, u] S = some (.int .i64 (if a.b.length + d.seen.st.length ≤ 65536 then 0 else 10), S5) := by rw [callE_live rfl (by kernel_rfl)]; exact z1
      obtain ⟨cs', c1, c2⟩ := cERAppend (c2 := cfg) rfl rfl h.rc hD hra (by rw [hnow]; exact hst) hu q1 S5
      rw [hnow] at c1 c2
      have c3 : Sim (if a.b.length + d.seen.st.length ≤ 65536 then d.app a.b else d) (if a.b.length + d.seen.st.length ≤ 65536 then r.act ⟨-1, a.b, false, 0⟩ else r) := by
        split
        · exact h.sm.app a.b
        · exact h.sm
      have c4 : Inv P (65536 * ((i + 1 : Nat) : Int)) (if a.b.length + d.seen.st.length ≤ 65536 then d.app a.b else d) := by
        split
        · rename_i hc
          exact (hI.app (by omega) hc).mono (by omega)
        · exact hI.mono hTm
      have c5 : (if a.b.length + d.seen.st.length ≤ 65536 then r.act ⟨-1, a.b, false, 0⟩ else r).done.length ≤ 4 * (i + 1) := by
        split
        · have := (act_same r ⟨-1, a.b, false, 0⟩).2.1; omega
        · omega
      obtain ⟨s, g', τ, m6, m7, m8, m9⟩ := tailD hP (by omega) z2 c3 c2 c4 c5 h.rc.ln w1 w2 w3
      rw [d1] at ev
      simp only [beq_self_eq_true, if_true, f2, bind_some', asInt_int, m1, l0, l2, c1, tupv_0, tupv_1, m6, bne_self_eq_false, Bool.false_eq_true, if_false, m7, m8, asBool_bool, ff, wi] at ev
      exact fin ev m9
    rw [if_neg (by rw [beq_iff_eq]; exact d1)] at ev
    by_cases d2 : a.d = 2
    · obtain ⟨g5, S5, z1, z2, z3⟩ := spTrim y1 hI.hP hI.pl hst ⟨hbs.1, by omega⟩ harm (by omega) q4
      obtain ⟨w1, w2, w3, l0, l1, l2, l3, l4⟩ := after z3
      have m1 : callE cfg (callω cfg) 18 [.ref id 0 0, .int .i64 a.n] S = some (.int .i64 (if d.seen.base ≤ a.n ∧ a.n ≤ d.seen.base + d.seen.st.length then 0 else 1), S5) := by rw [callE_live rfl (by kernel_rfl)]; exact z1
      obtain ⟨cs', c1, c2⟩ := cERTrim (c2 := cfg) rfl rfl h.rc hD hra (by rw [hnow]; exact hst) (by rw [hnow]; exact ⟨hbs.1, by omega⟩) q4 S5
      rw [hnow] at c1 c2
      have c3 : Sim (if d.seen.base ≤ a.n ∧ a.n ≤ d.seen.base + d.seen.st.length then d.trim a.n else d) (if d.seen.base ≤ a.n ∧ a.n ≤ d.seen.base + d.seen.st.length then r.act ⟨-1, [], true, a.n⟩ else r) := by
        split
        · exact h.sm.trim a.n
        · exact h.sm
      have c4 : Inv P (65536 * ((i + 1 : Nat) : Int)) (if d.seen.base ≤ a.n ∧ a.n ≤ d.seen.base + d.seen.st.length then d.trim a.n else d) := by
        refine Inv.mono ?_ hTm
        split
        · rename_i hc
          exact hI.trim (by omega) hc
        · exact hI
      have c5 : (if d.seen.base ≤ a.n ∧ a.n ≤ d.seen.base + d.seen.st.length then r.act ⟨-1, [], true, a.n⟩ else r).done.length ≤ 4 * (i + 1) := by
        split
        · have := (act_same r ⟨-1, [], true, a.n⟩).2.1; omega
        · omega
      obtain ⟨s, g', τ, m6, m7, m8, m9⟩ := tailD hP (by omega) z2 c3 c2 c4 c5 h.rc.ln w1 w2 w3
      rw [d2] at ev
      simp only [beq_self_eq_true, if_true, f3, bind_some', asInt_int, m1, l0, l3, c1, tupv_0, tupv_1, m6, bne_self_eq_false, Bool.false_eq_true, if_false, m7, m8, asBool_bool, ff, wi] at ev
      exact fin ev m9
    rw [if_neg (by rw [beq_iff_eq]; exact d2)] at ev
    by_cases d3 : a.d = 3
    · obtain ⟨g5, S5, z1, z2, z3⟩ := spSync y1 (P := P) (by omega) hI.kl hI.ws hI.ts (by omega) (by omega)
      obtain ⟨w1, w2, w3, l0, l1, l2, l3, l4⟩ := after z3
      have m1 : callE cfg (callω cfg) 11 [.ref id 0 0] S = some (.tuple [], S5) := by rw [callE_live rfl (by kernel_rfl)]; exact z1
      obtain ⟨cs', c1, c2⟩ := cERSync (c2 := cfg) rfl rfl h.rc S5
      have c5 : r.sync.done.length ≤ 4 * (i + 1) := by
        unfold Rf.sync
        split
        · omega
        · exact Nat.zero_le _
      obtain ⟨s, g', τ, m6, m7, m8, m9⟩ := tailD hP (by omega) z2 (h.sm.sync hI) c2 (hI.sync.mono hTm) c5 h.rc.ln w1 w2 w3
      rw [d3] at ev
      simp only [beq_self_eq_true, if_true, bind_some', m1, l0, c1, m6, bne_self_eq_false, Bool.false_eq_true, if_false, m7, m8, asBool_bool, ff, wi] at ev
      exact fin ev m9
    rw [if_neg (by rw [beq_iff_eq]; exact d3)] at ev
    by_cases d4 : a.d = 4
    · obtain ⟨S5, z1, z2, z3⟩ := spArm y1 a.n
      obtain ⟨w1, w2, w3, l0, l1, l2, l3, l4⟩ := after z3
      have m1 : callE cfg (callω cfg) 12 [.ref id 0 0, .int .i64 a.n] S = some (.tuple [], S5) := by rw [callE_live rfl (by kernel_rfl)]; exact z1
      obtain ⟨cs', c1, c2⟩ := cERArm (c2 := cfg) rfl rfl h.rc a.n S5
      have c5 : (r.arm a.n).done.length ≤ 4 * (i + 1) := by
        unfold Rf.arm
        split
        · omega
        · show r.done.length ≤ _; omega
      obtain ⟨s, g', τ, m6, m7, m8, m9⟩ := tailD hP (by omega) z2 (h.sm.armed a.n) c2 ((hI.armed q4).mono hTm) c5 h.rc.ln w1 w2 w3
      rw [d4] at ev
      simp only [beq_self_eq_true, if_true, f3, bind_some', asInt_int, m1, l0, l3, c1, m6, bne_self_eq_false, Bool.false_eq_true, if_false, m7, m8, asBool_bool, ff, wi] at ev
      exact fin ev m9
    rw [if_neg (by rw [beq_iff_eq]; exact d4)] at ev
    by_cases d5 : a.d = 5
    · obtain ⟨g5, S5, cs', s, g', τ, d', r', m1, m2, m3, m4, m5, m6, m7, m8, m9⟩ := wr hu hu q1
      obtain ⟨w1, w2, w3, l0, l1, l2, l3, l4⟩ := after m3
      rw [d5] at ev
      simp only [beq_self_eq_true, if_true, f1, f2, bind_some', asInt_int, m1, l0, l1, l2, m4, tupv_0, tupv_1, m6, bne_self_eq_false, Bool.false_eq_true, if_false, m7, m8, asBool_bool, ff, wi] at ev
      exact fin ev m9
    rw [if_neg (by rw [beq_iff_eq]; exact d5)] at ev
    obtain ⟨g5, S5, z1, z2, z3⟩ := spCrash y1 (hv.q S 1) (fun j hj => by rw [hv.tops] at hj; cases hj) hI.hP hI.kl hI.ws hI.ts (by omega) (by omega) ⟨q3, q4⟩ (hI.crashFit a.n)
    obtain ⟨w1, w2, w3, l0, l1, l2, l3, l4⟩ := after z3
    have m1 : callE cfg (callω cfg) 13 [.ref id 0 0, v, .int .i64 a.n] S = some (.tuple [], S5) := by rw [callE_live rfl (by kernel_rfl)]; exact z1
    obtain ⟨cs', c1, c2⟩ := cERCrash (c2 := cfg) rfl rfl h.rc (P := P) (by omega) hv q2 hD (cokOf h.sm hI a.n) ⟨q3, q4⟩ S5
    obtain ⟨s, g', τ, m6, m7, m8, m9⟩ := tailD hP (by omega) z2 (h.sm.crash a.p a.n) c2 ((hI.crash a.p a.n).mono hTm) (show ([] : List Pt).length ≤ _ from Nat.zero_le _) h.rc.ln w1 w2 w3
    simp only [f3, f4, bind_some', asInt_int, m1, l0, l3, l4, c1, m6, bne_self_eq_false, Bool.false_eq_true, if_false, m7, m8, asBool_bool, ff, wi] at ev
    exact fin ev m9
end
end Go.Pvm.S
