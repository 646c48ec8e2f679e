/- Part of the proof: records one behind the other, cut anywhere: just those are read that stand whole. -/
import Derived.Test.YtpilgmnhkgcgkaaRedoE
set_option linter.unusedSimpArgs false
set_option linter.unusedVariables false
set_option maxRecDepth 100000
namespace Go.Pvm.S
open Go.Pvm Go.Proofs Go.Pvm.Crc

/-! ### Plain -/
def cat (gs : List (List Img)) : List UInt8 := gs.flatMap record
def endsF (s : Nat) : List (List Img) → List Int
  | [] => []
  | g :: r => ((s + (record g).length : Nat) : Int) :: endsF (s + (record g).length) r
def cnt : List (List Img) → Nat → Nat
  | [], _ => 0
  | g :: r, n => if (record g).length ≤ n then 1 + cnt r (n - (record g).length) else 0
theorem cat_cons (g : List Img) (gs : List (List Img)) : cat (g :: gs) = record g ++ cat gs := by simp [cat]
theorem cat_snoc (gs : List (List Img)) (g : List Img) : cat (gs ++ [g]) = cat gs ++ record g := by simp [cat]
theorem endsF_len : ∀ (gs : List (List Img)) (s : Nat), (endsF s gs).length = gs.length
  | [], _ => rfl
  | g :: gs, s => by rw [endsF, List.length_cons, endsF_len gs, List.length_cons]
theorem endsF_snoc : ∀ (gs : List (List Img)) (s : Nat) (g : List Img), endsF s (gs ++ [g]) = endsF s gs ++ [((s + (cat gs ++ record g).length : Nat) : Int)]
  | [], s, g => by simp [endsF, cat]
  | x :: gs, s, g => by
    rw [List.cons_append, endsF, endsF, endsF_snoc gs, cat_cons, List.cons_append]
    congr 3
    simp only [List.length_append]
    omega
theorem endsF_get : ∀ (gs : List (List Img)) (s i : Nat), i < gs.length → (endsF s gs)[i]? = some ((s + (cat (gs.take (i + 1))).length : Nat) : Int)
  | [], s, i, h => by simp at h
  | g :: gs, s, 0, h => by simp [endsF, cat]
  | g :: gs, s, i + 1, h => by
    rw [endsF, List.getElem?_cons_succ, endsF_get gs _ i (by simpa using h), List.take_succ_cons, cat_cons, List.length_append]
    congr 2
    omega
theorem cnt_le : ∀ (gs : List (List Img)) (n : Nat), cnt gs n ≤ gs.length
  | [], _ => Nat.le_refl _
  | g :: gs, n => by
    rw [cnt]
    split
    · have := cnt_le gs (n - (record g).length); simp; omega
    · exact Nat.zero_le _
theorem rowN_shift : ∀ (k : Nat) (b : List UInt8) (p : Nat), (rowN k b p).1 = (rowN k (b.drop p) 0).1
  | 0, b, p => rfl
  | k + 1, b, p => by
    unfold rowN
    rw [List.drop_zero]
    split
    · rfl
    · show (first (b.drop p)).1 :: (rowN k b (p + (first (b.drop p)).2.1)).1 = (first (b.drop p)).1 :: (rowN k (b.drop p) (0 + (first (b.drop p)).2.1)).1
      rw [rowN_shift k b, rowN_shift k (b.drop p), List.drop_drop, Nat.zero_add]
theorem rows_cut : ∀ (gs : List (List Img)), (∀ g ∈ gs, may g = true) → ∀ (k n : Nat), ((cat gs).take n).length < k → (rowN k ((cat gs).take n) 0).1 = gs.take (cnt gs n)
  | [], _, k, n, hk => by
    have h0 : (cat []).take n = [] := by simp [cat]
    rw [h0]
    cases k with
    | zero => rfl
    | succ k =>
      have : (first ([] : List UInt8)).2.2 ≠ 0 := by decide
      unfold rowN
      rw [List.drop_nil, if_pos this]
      simp
  | g :: gs, hm, k, n, hk => by
    have hg := hm g (.head _)
    have hrl := record_len (g := g) fun m h => (may_all hg m h).2.2
    obtain ⟨k, rfl⟩ : ∃ k', k = k' + 1 := ⟨k - 1, by omega⟩
    rw [cat_cons, cnt]
    by_cases hn : (record g).length ≤ n
    · have hb : (record g ++ cat gs).take n = record g ++ (cat gs).take (n - (record g).length) := by
        rw [List.take_append, List.take_of_length_le hn]
      rw [cat_cons, hb, List.length_append] at hk
      rw [hb, if_pos hn]
      unfold rowN
      rw [List.drop_zero, first_record hg, if_neg (by simp)]
      show g :: (rowN k _ (0 + (record g).length)).1 = _
      rw [rowN_shift, Nat.zero_add, List.drop_left' rfl, rows_cut gs (fun g h => hm g (.tail _ h)) k _ (by omega), Nat.add_comm 1, List.take_succ_cons]
    · have hb : (record g ++ cat gs).take n = (record g).take n := by rw [List.take_append_of_le_length (by omega)]
      rw [hb, if_neg hn]
      unfold rowN
      rw [List.drop_zero, if_pos (first_cut hg (by omega))]
      simp

/-! ### The program -/
def RNN : ElR (List Int) := fun e l => ∃ u, e = [u] ∧ IsS RN u l
theorem okNN : ROk 1 RNN := ⟨fun e g h => by obtain ⟨u, rfl, _⟩ := h; rfl, fun e g h c hc => by obtain ⟨u, rfl, hu⟩ := h; rw [List.mem_singleton.1 hc]; exact hu.plain⟩
theorem TNN : SlT Try.prog 49 22 1 24 := ⟨by kernel_rfl, by kernel_rfl, by kernel_rfl, ⟨.nilsl, by kernel_rfl, rfl, rfl⟩, by decide, by decide⟩
theorem bsN0 (σ : Store) : buildSlv Try.prog σ 22 0 [] = some (.lsl σ.next 1 0 0 (some 0), σ.push (.cells 0 [])) := by kernel_rfl
theorem bsN1 (σ : Store) (a : Int) : buildSlv Try.prog σ 22 1 [(0, .int .i64 a)] = some (.lsl σ.next 1 0 1 (some 1), σ.push (.cells 0 [cN a])) := by
  have : ∀ a, buildSlv Try.prog σ 22 1 [(0, .int .i64 a)] = some (.lsl σ.next 1 0 1 (some 1), σ.push (.cells 0 [[.int .i64 a]])) := by intro a; kernel_rfl
  exact this a
theorem ldtInt (σ : Store) (c : PV) (r : List PV) : loadv Try.prog σ 22 (.pref (c :: r)) = some c := by kernel_rfl
theorem partN (c : PV) : partOf Try.prog 3 [c] 0 = some c := by kernel_rfl
theorem partG (c : PV) : partOf Try.prog 25 [c] 0 = some c := by kernel_rfl

/-- All that has been written; where each ends; the groups. -/
structure CI (τ : Store) (ua uw ul : PV) (gs : List (List Img)) : Prop where
  a : AxS RB τ 1 ua (cat gs)
  w : AxS RN τ 1 uw (endsF 0 gs)
  l : AxS RG τ 1 ul gs
  may : ∀ g ∈ gs, may g = true
  d1 : ∀ j ∈ tops ua, j ∉ tops uw ∧ j ∉ tops ul
  d2 : ∀ j ∈ tops uw, j ∉ tops ul
theorem CI.kp {τ τ' : Store} {ua uw ul : PV} {gs : List (List Img)} (h : CI τ ua uw ul gs) (k : Kp τ τ' []) : CI τ' ua uw ul gs :=
  ⟨h.a.kp k (fun _ _ h => by cases h), h.w.kp k (fun _ _ h => by cases h), h.l.kp k (fun _ _ h => by cases h), h.may, h.d1, h.d2⟩
theorem cat_len : ∀ {gs : List (List Img)}, (∀ g ∈ gs, may g = true) → (cat gs).length ≤ 3100 * gs.length
  | [], _ => by simp [cat]
  | g :: gs, h => by
    have h1 := may_len (h g (.head _))
    have h2 := record_len (g := g) fun m hm => (may_all (h g (.head _)) m hm).2.2
    have h3 := cat_len fun g hg => h g (.tail (a := g) _ hg)
    rw [cat_cons, List.length_append, List.length_cons]
    omega
section
variable {v w o v' : PV} {g g' : List Img} {b x : List UInt8} {σ : Store}
theorem lpCutsA {pss : List (List Int)} {bs : List (List UInt8)} (hp : IsS RNN v pss) (hb : IsS RBB w bs) (hpl : pss.length < 4611686018427387904) (hbe : ∀ b ∈ bs, b.length < 4611686018427387904) (c : Int) : ∀ (k i : Nat) (τ : Store) (ua uw ul : PV) (gs : List (List Img)), i + k = min 5 pss.length → gs.length ≤ i → CI τ ua uw ul gs →
    ∃ ua' uw' ul' τ' gs', loopω cfg 6 lc6_5 (st6_5 v w c ua uw ul (i : Nat)) τ = some (.exit 0, out6_5 c ua' uw' ul', τ') ∧ CI τ' ua' uw' ul' gs' ∧ gs'.length ≤ 5
  | 0, i, τ, ua, uw, ul, gs, hi, hg, h => by
    refine ⟨ua, uw, ul, τ, gs, loopω_ofK ((lq6_5 _ _ _ _ _ _ _ _ _ _).trans ?_), h, by omega⟩
    by_cases c1 : i < pss.length
    · have c2 : decide (((i : Nat) : Int) < 5) = false := decide_eq_false (by omega)
      simp only [hp.len TNN, bind_some', asInt_int, ltN c1, c2, if_true, Bool.false_eq_true, if_false]
    · simp only [hp.len TNN, bind_some', asInt_int, nltN (show pss.length ≤ i by omega), Bool.false_eq_true, if_false]
  | k + 1, i, τ, ua, uw, ul, gs, hi, hg, h => by
    have c1 : i < pss.length := by omega
    have c2 : decide (((i : Nat) : Int) < 5) = true := decide_eq_true (by omega)
    have hw := List.getElem?_eq_getElem c1
    obtain ⟨e, i1, up, rfl, hup⟩ := hp.idx TNN okNN hw .i64
    obtain ⟨u, τ1, q1, q2, q3, q4⟩ := cEImages hup hb hbe τ
    have hil := imgs_len pss[i] bs
    generalize imgs pss[i] bs = g at q2 hil
    obtain ⟨τ2, ro1, ro2⟩ := roAll_ok (tops u) τ1 (q2.lf okI)
    have hz : IsS RI (fz fuelFz τ1 u) g := q2.frz okI 6
    have h2 := (h.kp q3).kp (ro2.kp [])
    have ev := lq6_5 (callω cfg) (loopω cfg) τ v w c ua uw ul (i : Nat)
    simp only [hp.len TNN, bind_some', asInt_int, ltN c1, c2, if_true, i1, ldtInt, q1, ro1, cEMay (c2 := cfg) rfl rfl (hz.q τ2 2) (by omega), asBool_bool, wrap_succ (show i < 4611686018427387904 by omega)] at ev
    cases hmy : may g with
    | false =>
      simp only [hmy, Bool.not_false, if_true] at ev
      obtain ⟨ua', uw', ul', τ', gs', r1, r2, r3⟩ := lpCutsA hp hb hpl hbe c k (i + 1) τ2 ua uw ul gs (by omega) (by omega) h2
      exact ⟨ua', uw', ul', τ', gs', loopω_ofK (ev.trans r1), r2, r3⟩
    | true =>
      obtain ⟨τ3, id, e1, e2, e3, e4, e5⟩ := cEEncode (hz.q τ2 2) hmy
      have h3 := h2.kp e5
      have hcl := cat_len h.may
      have hrl := record_len (g := g) fun m hm => (may_all hmy m hm).2.2
      have h6 := (may_len hmy).2
      obtain ⟨ua1, τ4, a1, a2, a3, a4⟩ := h3.a.appQ TB okB (rowQ (cap := none) e2 rfl e4) (by omega)
      have w4 := h3.w.mod a3 fun j hj k => (h.d1 j k).1 hj
      have l4 := h3.l.mod a3 fun j hj k => (h.d1 j k).2 hj
      have hlt : ∀ j ∈ tops uw, j < τ3.next := h3.w.lt
      have hlt' : ∀ j ∈ tops ul, j < τ3.next := h3.l.lt
      have dA : ∀ j ∈ tops ua1, j ∉ tops uw ∧ j ∉ tops ul := fun j hj => by
        rcases a4 j hj with e | e
        · exact h.d1 j e
        · exact ⟨fun k => by have := hlt j k; omega, fun k => by have := hlt' j k; omega⟩
      obtain ⟨uw1, τ5, b1, b2, b3, b4⟩ := w4.app1 TN okN (All2.one (show RN (cN (((cat gs ++ record g).length : Nat) : Int)) (((cat gs ++ record g).length : Nat) : Int) from rfl)) (by rw [endsF_len]; simp; omega) (n := 1) rfl
      have a5 := a2.mod b3 fun j hj k => (dA j hj).1 k
      have l5 := l4.mod b3 fun j hj k => h.d2 j k hj
      have hlta : ∀ j ∈ tops ua1, j < τ4.next := a2.lt
      have hltl : ∀ j ∈ tops ul, j < τ4.next := l4.lt
      have dB : ∀ j ∈ tops uw1, j ∉ tops ul ∧ j ∉ tops ua1 := fun j hj => by
        rcases b4 j hj with e | e
        · exact ⟨h.d2 j e, fun k => (dA j k).1 e⟩
        · exact ⟨fun k => by have := hltl j k; omega, fun k => by have := hlta j k; omega⟩
      obtain ⟨ul1, τ6, x1, x2, x3, x4⟩ := l5.app1 TG okG (All2.one (show RG [fz fuelFz τ1 u] g from ⟨_, rfl, hz⟩)) (by simp; omega) (n := 1) rfl
      have a6 := a5.mod x3 fun j hj k => (dA j hj).2 k
      have w6 := b2.mod x3 fun j hj k => (dB j hj).1 k
      have hlta5 : ∀ j ∈ tops ua1, j < τ5.next := a5.lt
      have hltw5 : ∀ j ∈ tops uw1, j < τ5.next := b2.lt
      have hci : CI τ6 ua1 uw1 ul1 (gs ++ [g]) := by
        refine ⟨by rw [cat_snoc]; exact a6, by rw [endsF_snoc, Nat.zero_add]; exact w6, x2, fun y hy => ?_, fun j hj => ⟨fun k => (dB j k).2 hj, fun k => ?_⟩, fun j hj k => ?_⟩
        · rcases List.mem_append.1 hy with hy | hy
          · exact h.may y hy
          · rw [List.mem_singleton.1 hy]; exact hmy
        · rcases x4 j k with e | e
          · exact (dA j hj).2 e
          · have := hlta5 j hj; omega
        · rcases x4 j k with e | e
          · exact (dB j hj).1 e
          · have := hltw5 j hj; omega
      have z0 : ((0 : Int) != 0) = false := rfl
      simp only [hmy, Bool.not_true, Bool.false_eq_true, if_false, e1, bind_some', tupv_0, tupv_1, asInt_int, z0, a1, a2.len TB, bsN1, b1, bsG1 hz, x1] at ev
      obtain ⟨ua', uw', ul', τ', gs', r1, r2, r3⟩ := lpCutsA hp hb hpl hbe c k (i + 1) τ6 ua1 uw1 ul1 (gs ++ [g]) (by omega) (by simp; omega) hci
      exact ⟨ua', uw', ul', τ', gs', loopω_ofK (ev.trans r1), r2, r3⟩
theorem lpCutsB {τ : Store} {ua uw ul : PV} {gs : List (List Img)} (h : CI τ ua uw ul gs) (hl : gs.length ≤ 5) (n : Nat) : ∀ (k i : Nat), i + k = gs.length → (cat (gs.take i)).length ≤ n →
    loopω cfg 6 lc6_17 (st6_17 ua uw ul (n : Nat) (i : Nat)) τ = some (.exit 2, out6_17 ua ul (n : Nat) ((i + cnt (gs.drop i) (n - (cat (gs.take i)).length) : Nat) : Int), τ)
  | 0, i, hi, hn => by
    refine loopω_ofK ((lq6_17 _ _ _ _ _ _ _ _).trans ?_)
    simp only [h.l.len TG, bind_some', asInt_int, nltN (show gs.length ≤ i by omega), Bool.false_eq_true, if_false]
    rw [List.drop_eq_nil_of_le (by omega)]
    rfl
  | k + 1, i, hi, hn => by
    have ev := lq6_17 (callω cfg) (loopω cfg) τ ua uw ul (n : Nat) (i : Nat)
    have hw := endsF_get gs 0 i (by omega)
    rw [Nat.zero_add] at hw
    obtain ⟨a, e, i1, _, i2, rfl⟩ := h.w.q.idx TN okN hw .i64
    have hld : loadv Try.prog τ 3 a = some (.int .i64 (((cat (gs.take (i + 1))).length : Nat) : Int)) := (i2 _).trans (partN _)
    have hd : gs.drop i = gs[i]'(by omega) :: gs.drop (i + 1) := (List.drop_eq_getElem_cons (by omega))
    have ht : cat (gs.take (i + 1)) = cat (gs.take i) ++ record (gs[i]'(by omega)) := by
      rw [List.take_add_one, List.getElem?_eq_getElem (show i < gs.length by omega)]
      exact cat_snoc _ _
    generalize gs[i]'(by omega) = g at hd ht
    have htl : (cat (gs.take (i + 1))).length = (cat (gs.take i)).length + (record g).length := by rw [ht, List.length_append]
    rw [hd, cnt]
    simp only [h.l.len TG, bind_some', asInt_int, ltN (show i < gs.length by omega), if_true, i1, hld, wrap_succ (show i < 4611686018427387904 by omega)] at ev
    by_cases hc : (record g).length ≤ n - (cat (gs.take i)).length
    · have hc' : decide ((((cat (gs.take (i + 1))).length : Nat) : Int) ≤ ((n : Nat) : Int)) = true := decide_eq_true (by omega)
      simp only [hc', if_true] at ev
      rw [if_pos hc]
      refine loopω_ofK (ev.trans ?_)
      rw [lpCutsB h hl n k (i + 1) (by omega) (by omega), htl]
      congr 5
      rw [show n - (cat (gs.take i)).length - (record g).length = n - ((cat (gs.take i)).length + (record g).length) by omega]
      omega
    · have hc' : decide ((((cat (gs.take (i + 1))).length : Nat) : Int) ≤ ((n : Nat) : Int)) = false := decide_eq_false (by omega)
      simp only [hc', Bool.false_eq_true, if_false] at ev
      rw [if_neg hc]
      exact loopω_ofK ev
theorem lpCutsC {τ : Store} {ul : PV} {gs : List (List Img)} (hm : ∀ g ∈ gs, may g = true) (hl : AxS RG τ 1 ul gs) {m : Nat} (hm5 : m ≤ gs.length) (hgl : gs.length ≤ 5) (h : IsS RG v (gs.take m)) : ∀ (k i : Nat), i + k = m →
    loopω cfg 6 lc6_23 (st6_23 ul (m : Nat) v (i : Nat)) τ = some (.exit 4, out6_23, τ)
  | 0, i, hi => by
    refine loopω_ofK ((lq6_23 _ _ _ _ _ _ _).trans ?_)
    simp only [nltN (show m ≤ i by omega), Bool.false_eq_true, if_false]
  | k + 1, i, hi => by
    refine loopω_ofK ((lq6_23 _ _ _ _ _ _ _).trans ?_)
    have hw := List.getElem?_eq_getElem (show i < gs.length by omega)
    have hw2 : (gs.take m)[i]? = some (gs[i]'(by omega)) := by rw [List.getElem?_take, if_pos (by omega), hw]
    obtain ⟨e, i1, u, rfl, hu⟩ := h.idx TG okG hw2 .i64
    obtain ⟨a, e', j1, _, j2, u', rfl, hu'⟩ := hl.q.idx TG okG hw .i64
    have hld : loadv Try.prog τ 25 a = some u' := (j2 _).trans (partG _)
    have h6 := may_len (hm _ (List.mem_of_getElem? hw))
    simp only [bind_some', asInt_int, ltN (show i < m by omega), if_true, i1, ldtI, j1, hld, cESame (c2 := cfgS) rfl rfl (hu.q τ 2) (hu'.q τ 2) (by omega), asBool_bool, decide_true, Bool.not_true, Bool.false_eq_true, if_false, wrap_succ (show i < 4611686018427387904 by omega)]
    exact lpCutsC hm hl hm5 hgl h k (i + 1) (by omega)
theorem spCuts {pss : List (List Int)} {bs : List (List UInt8)} {c : Int} (hp : IsS RNN v pss) (hb : IsS RBB w bs) (hpl : pss.length < 4611686018427387904) (hbe : ∀ b ∈ bs, b.length < 4611686018427387904) (hc : 0 ≤ c ∧ c ≤ 65535) : ∃ σ', callω cfg 6 [v, w, .int .u16 c] .empty = some (.bool true, σ') := by
  have ev := eq6 (callω cfg) (loopω cfg) .empty v w c
  obtain ⟨c, rfl⟩ := Int.eq_ofNat_of_zero_le hc.1
  have h0 : CI (((Store.empty.push (.cells 0 [])).push (.cells 0 [])).push (.cells 0 [])) (.lsl Store.empty.next 1 0 0 (some 0)) (.lsl (Store.empty.push (.cells 0 [])).next 1 0 0 (some 0)) (.lsl ((Store.empty.push (.cells 0 [])).push (.cells 0 [])).next 1 0 0 (some 0)) [] :=
    ⟨((AxS.fresh .nil .empty 1 rfl).push _).push _, (AxS.fresh .nil _ 1 rfl).push _, AxS.fresh .nil _ 1 rfl, fun _ h => (by cases h),
      fun j hj => (by simp [tops, Store.push, Store.empty] at hj ⊢; omega), fun j hj => (by simp [tops, Store.push, Store.empty] at hj ⊢; omega)⟩
  obtain ⟨ua, uw, ul, τ, gs, r1, r2, r3⟩ := lpCutsA hp hb hpl hbe ((c : Nat) : Int) (min 5 pss.length) 0 _ _ _ _ [] (by omega) (by simp) h0
  rw [natz] at r1
  have hcl := cat_len r2.may
  have hw1 : IntKind.wrap .i64 ((c : Nat) : Int) = ((c : Nat) : Int) := wrap_i64 (by omega) (by omega)
  have hw2 : IntKind.wrap .i64 ((((cat gs).length : Nat) : Int) + 1) = (((cat gs).length + 1 : Nat) : Int) := wrap_succ (by omega)
  have hrem : binv Try.prog .rem 3 (.int .i64 ((c : Nat) : Int)) (.int .i64 (((cat gs).length + 1 : Nat) : Int)) = some (.int .i64 ((c % ((cat gs).length + 1) : Nat) : Int)) := by
    have hz : ¬ ((((cat gs).length + 1 : Nat) : Int) = 0) := by omega
    simp only [binv, arith, if_true, hz, if_false, tmod_nat]
  have hmod := Nat.mod_lt c (show 0 < (cat gs).length + 1 by omega)
  generalize c % ((cat gs).length + 1) = n at hrem hmod
  have hB := lpCutsB r2 r3 n gs.length 0 (by omega) (by simp [cat])
  have hcz : (cat (gs.take 0)).length = 0 := rfl
  rw [natz, List.drop_zero, hcz, Nat.sub_zero, Nat.zero_add] at hB
  obtain ⟨v1, c1, w1, t1⟩ := r2.a.cut TB okB (lo := none) (hi := some (.int .i64 (n : Nat))) rfl (numOf_nat .i64 n _) (Nat.zero_le _) (by omega)
  rw [List.drop_zero, Nat.sub_zero] at w1
  obtain ⟨v2, τ2, d1, d2, d3⟩ := cERow w1 (fun j hj => r2.a.lf okB j (t1 j hj)) (by simp; omega)
  have hrow : (rowG ((cat gs).take n)).1 = gs.take (cnt gs n) := rows_cut gs r2.may _ n (Nat.lt_succ_self _)
  rw [hrow] at d2
  have hcn := cnt_le gs n
  have hC := lpCutsC r2.may (r2.l.rl d3) hcn r3 d2 (cnt gs n) 0 (by omega)
  rw [natz] at hC
  have hlen : (gs.take (cnt gs n)).length = cnt gs n := by simp; omega
  have hne : ((((gs.take (cnt gs n)).length : Nat) : Int) != ((cnt gs n : Nat) : Int)) = false := by rw [hlen]; simp
  simp only [bsB0, bsN0, bsG0, bind_some', r1, onEx_exit, if_true, out6_5_2, out6_5_7, out6_5_8, out6_5_9, asInt_int, r2.a.len TB, hw1, hw2, hrem, hB, out6_17_7, out6_17_9, out6_17_14, out6_17_15, c1, d1, tupv_0, tupv_1, d2.len TG, hne, Bool.false_eq_true, if_false, hC, cEAwake (c2 := cfg) rfl rfl, asBool_bool] at ev
  exact ⟨_, callω_ofK hT ev⟩
end
end Go.Pvm.S
