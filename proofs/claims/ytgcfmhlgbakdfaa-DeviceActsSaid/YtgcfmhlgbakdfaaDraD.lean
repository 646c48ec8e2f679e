/- Part of the proof: the document's device over values alone: what is behind a crash, counts, pages of bytes. -/
import Derived.Test.YtgcfmhlgbakdfaaDraC
import Derived.Test.YtgcfmhlgbakdfaaDevM
set_option linter.unusedSimpArgs false
set_option linter.unusedVariables false
set_option maxRecDepth 100000
namespace Go.Pvm.S
open Go.Pvm Go.Proofs
theorem remT (t : TypeId) {x y : Nat} (h : 0 < y) : binv Try.prog .rem t (.int .i64 (x : Nat)) (.int .i64 (y : Nat)) = some (.int .i64 ((x % y : Nat) : Int)) := by
  have h0 : ((y : Nat) : Int) ≠ 0 := by omega
  have hm : ((x : Nat) : Int).tmod ((y : Nat) : Int) = ((x % y : Nat) : Int) := rfl
  simp [binv, arith, h0, hm]
  omega
/-- What the parts that are left ask of a disk. -/
structure Cok (P : Nat) (x : Dk) (l : List Pt) (n : Int) : Prop where
  pl : x.pg.length = 512 * P
  bs : 0 ≤ x.base
  pg : ∀ u ∈ l, 0 ≤ u.at_ → 128 * u.at_.toNat + 128 ≤ 512 * P ∧ u.b.length = 128
  ok : 0 < n → oks x (tsOf l)
  ps : ∀ u ∈ l, 0 < u.size
theorem part_len {P : Nat} {x : Dk} {u : Pt} (hl : x.pg.length = 512 * P) (h : 0 ≤ u.at_ → 128 * u.at_.toNat + 128 ≤ 512 * P ∧ u.b.length = 128) : (x.part u).pg.length = 512 * P := by
  unfold Dk.part
  by_cases c : 0 ≤ u.at_
  · rw [if_pos c]
    obtain ⟨h1, h2⟩ := h c
    show (putP x.pg _).length = _
    rw [putP_len (by rw [hl]; exact h1) h2, hl]
  · rw [if_neg c, turn_pg, hl]
def bo (b : Bool) : List PV := [.bool b]
def eD (x : Dk) : List PV := [.psl false (x.pg.map cB), .int .i64 x.base, .psl false (x.st.map cB)]
theorem oks_put : ∀ (ts : List Tn) (x : Dk) (w : Int × By), oks x ts → oks (x.put w) ts
  | [], _, _, _ => trivial
  | t :: ts, x, w, h => ⟨h.1, h.2.1, h.2.2.1, by rw [turn_put]; exact oks_put ts _ w h.2.2.2⟩
theorem Cok.page {P : Nat} {x : Dk} {u : Pt} {l : List Pt} {n : Int} (h : Cok P x (u :: l) n) (c : 0 ≤ u.at_) : Cok P x l n ∧ Cok P (x.part u) l n ∧ (P ≤ 64 → Fit x u) := by
  have hu := h.pg u (.head _)
  have hts : tsOf (u :: l) = tsOf l := by rw [tsOf_cons, if_pos c]
  have hp : x.part u = x.put (u.at_, u.b) := by unfold Dk.part; rw [if_pos c]
  refine ⟨⟨h.pl, h.bs, fun v hv => h.pg v (.tail _ hv), fun hn => by rw [← hts]; exact h.ok hn, fun v hv => h.ps v (.tail _ hv)⟩, ⟨part_len h.pl hu, by rw [hp]; exact h.bs, fun v hv => h.pg v (.tail _ hv), fun hn => by rw [hp]; refine oks_put _ _ _ ?_; rw [← hts]; exact h.ok hn, fun v hv => h.ps v (.tail _ hv)⟩, fun hP => ⟨fun _ => ?_, fun e => by omega, fun e => by omega⟩⟩
  have h1 := hu c
  have h2 := h.pl
  exact ⟨by omega, by omega, by omega, by omega⟩
/-- A part of the stream, of so many units. -/
theorem Cok.turn {P : Nat} {x : Dk} {u : Pt} {l : List Pt} {n : Int} (h : Cok P x (u :: l) n) (c : ¬ 0 ≤ u.at_) : Cok P (if (u.first n).2 = true then x.part (u.first n).1 else x) l (if n < u.size then 0 else n - u.size) ∧ ((u.first n).2 = true → Fit x (u.first n).1) := by
  have hs := h.ps u (.head _)
  have hts : tsOf (u :: l) = ⟨u.b, u.trim, u.to⟩ :: tsOf l := by rw [tsOf_cons, if_neg c]
  have hbase : ∀ t : Tn, (t.trim = true → x.base ≤ t.place) → 0 ≤ (x.turn t).base := fun t ht => by
    unfold Dk.turn
    have := h.bs
    by_cases e : t.trim = true
    · rw [if_pos e]; have := ht e; show 0 ≤ t.place; omega
    · rw [if_neg e]; exact h.bs
  by_cases c0 : n ≤ 0
  · have hf : u.first n = (u, false) := first_one (by omega) (.inr (.inr c0))
    rw [hf, if_neg (show ¬ (u, false).2 = true from Bool.false_ne_true), if_pos (show n < u.size by omega)]
    exact ⟨⟨h.pl, h.bs, fun v hv => h.pg v (.tail _ hv), fun e => absurd e (by decide), fun v hv => h.ps v (.tail _ hv)⟩, fun e => by cases e⟩
  have ho := h.ok (by omega)
  rw [hts] at ho
  obtain ⟨o1, o2, o3, o4⟩ := ho
  by_cases c1 : n ≥ u.size
  · have hf : u.first n = (u, true) := by unfold Pt.first; rw [if_pos c1, decide_eq_true hs]
    rw [hf, if_pos rfl, if_neg (by omega), part_turn c]
    refine ⟨⟨by rw [turn_pg]; exact h.pl, hbase _ fun e => (o1 e).1, fun v hv => h.pg v (.tail _ hv), fun _ => o4, fun v hv => h.ps v (.tail _ hv)⟩, fun _ => ⟨fun e => absurd e c, fun _ e => ?_, fun _ e => ?_⟩⟩
    · have := o1 e
      exact ⟨this.1, this.2, by omega⟩
    · have o3 : x.st.length + u.b.length ≤ 65536 := o3
      exact ⟨by omega, by show u.b.length ≤ _; omega⟩
  · have htr : u.trim = false := by
      cases ht : u.trim with
      | false => rfl
      | true =>
        have : u.size = 1 := by unfold Pt.size; rw [if_neg (by rintro ⟨_, e⟩; rw [ht] at e; cases e)]
        omega
    have hf : u.first n = ({ u with b := u.b.take n.toNat }, true) := by
      unfold Pt.first
      rw [if_neg c1, if_neg (by rintro (e | e | e)
                                · exact c0 e
                                · exact c e
                                · rw [htr] at e; cases e)]
    have hp : x.part { u with b := u.b.take n.toNat } = x.turn ⟨u.b.take n.toNat, u.trim, u.to⟩ := part_turn (u := { u with b := u.b.take n.toNat }) c
    rw [hf, if_pos rfl, if_pos (by omega)]
    show Cok P (x.part { u with b := u.b.take n.toNat }) l 0 ∧ _
    rw [hp]
    refine ⟨⟨by rw [turn_pg]; exact h.pl, hbase _ (fun e => by rw [htr] at e; cases e), fun v hv => h.pg v (.tail _ hv), fun e => absurd e (by decide), fun v hv => h.ps v (.tail _ hv)⟩, fun _ => ⟨fun e => absurd e c, fun _ e => (by rw [htr] at e; cases e), fun _ _ => ?_⟩⟩
    have o3 : x.st.length + u.b.length ≤ 65536 := o3
    exact ⟨by omega, by show (u.b.take n.toNat).length ≤ _; rw [List.length_take]; omega⟩
abbrev obs (r : Rf) (x : Dk) : List KO := [.box true 53 r.e, .box true 53 [whole 3 1, .int .i64 0, whole 4 1, whole 5 1, .int .i64 0, whole 6 1, whole 7 4, .bool false, .int .i64 0], .box true 50 x.e, .made true 1 [], .made true 1 [], .made true 1 [], .made true 1 [], .made true 4 []]
abbrev obx (x : Dk) : List KO := [.box true 53 [whole 2 1, .int .i64 0, whole 3 1, whole 4 1, .int .i64 0, whole 5 1, whole 6 4, .bool false, .int .i64 0], .box true 50 x.e, .made true 1 [], .made true 1 [], .made true 1 [], .made true 1 [], .made true 4 []]
theorem lpRCrash {P : Nat} (hP : P ≤ 64) (pat : List Bool) (hpl : pat.length < 4611686018427387904) (r : Rf) (hd : r.done.length ≤ 1000000) : ∀ (k i kk : Nat) (x : Dk) (n : Int), i + k = r.done.length → kk ≤ i → Cok P x (r.done.drop i) n → -9223372036854775808 ≤ n ∧ n ≤ 9223372036854775807 →
    Lω 28 lcK28_4 0 (stK28_4 (pat.map bo) n (kk : Nat) (i : Nat)) (obs r x) = some (.exit 0, mkS 68 [(6, .ref 0 0 0), (7, .ref 1 0 0)], obx (crashR pat x (r.done.drop i) kk n))
  | 0, i, kk, x, n, hi, hk, hc, hn => by
    have ev := lqK28_4 Cω Lω (pat.map bo) n (kk : Nat) (i : Nat) (r.kept.pg.map cB) r.kept.base (r.kept.st.map cB) (r.now.pg.map cB) r.now.base (r.now.st.map cB) (r.done.map Pt.e) r.gone r.armed 0 0 false 0 (x.pg.map cB) x.base (x.st.map cB) [] [] [] [] []
    rw [if_neg (by rw [decide_eq_true_eq, List.length_map]; omega)] at ev
    rw [List.drop_eq_nil_of_le (by omega)]
    exact lw ev
  | k + 1, i, kk, x, n, hi, hk, hc, hn => by
    have hw := List.getElem?_eq_getElem (show i < r.done.length by omega)
    have hdr : r.done.drop i = r.done[i] :: r.done.drop (i + 1) := List.drop_eq_getElem_cons (by omega)
    have ev := lqK28_4 Cω Lω (pat.map bo) n (kk : Nat) (i : Nat) (r.kept.pg.map cB) r.kept.base (r.kept.st.map cB) (r.now.pg.map cB) r.now.base (r.now.st.map cB) (r.done.map Pt.e) r.gone r.armed 0 0 false 0 (x.pg.map cB) x.base (x.st.map cB) [] [] [] [] []
    rw [if_pos (by rw [decide_eq_true_eq, List.length_map]; omega), if_pos (by omega), Int.toNat_natCast, mapGt hw, bind_some'] at ev
    rw [hdr] at hc ⊢
    generalize r.done[i] = u at ev hc
    have hu : u.e = [.int .i64 u.at_, .psl false (u.b.map cB), .bool u.trim, .int .i64 u.to] := rfl
    rw [hu, asCI_cons, asCS_psl, asCB_cons, asCI_cons, asNil_nil] at ev
    unfold crashR
    by_cases c : 0 ≤ u.at_
    · obtain ⟨k1, k2, k3⟩ := hc.page c
      rw [if_pos (decide_eq_true (show u.at_ ≥ 0 from c))] at ev
      rw [if_pos c]
      by_cases cp : 0 < pat.length
      · have hq : kk % pat.length < pat.length := Nat.mod_lt _ cp
        have hg := List.getElem?_eq_getElem hq
        have hgd : pat.getD (kk % pat.length) false = pat[kk % pat.length] := by rw [List.getD_eq_getElem?_getD, hg]; rfl
        rw [if_pos (by rw [decide_eq_true_eq, List.length_map]; omega), List.length_map, remT _ cp, bind_some', asInt_int, if_pos (by omega), Int.toNat_natCast, mapGt hg, bind_some'] at ev
        rw [show bo pat[kk % pat.length] = [.bool pat[kk % pat.length]] from rfl, asCB_cons, asNil_nil] at ev
        rw [hgd]
        cases hb : pat[kk % pat.length] with
        | true =>
          have hT := spRTurn (k3 hP)
          rw [hu] at hT
          have hx : x.e = [.psl false (x.pg.map cB), .int .i64 x.base, .psl false (x.st.map cB)] := rfl
          have hx' : (x.part u).e = [.psl false ((x.part u).pg.map cB), .int .i64 (x.part u).base, .psl false ((x.part u).st.map cB)] := rfl
          rw [hx, hx'] at hT
          rw [hb, if_pos rfl, hT, bind_some', asAgg_agg, asCS_psl, asCI_cons, asCS_psl, asNil_nil, wrap_succ (by omega), wrap_succ (by omega)] at ev
          rw [if_pos ⟨cp, rfl⟩]
          exact lw (ev.trans (lpRCrash hP pat hpl r hd k (i + 1) (kk + 1) (x.part u) n (by omega) (by omega) k2 hn))
        | false =>
          rw [hb, if_neg (by decide), wrap_succ (by omega), wrap_succ (by omega)] at ev
          rw [if_neg (fun e => by cases e.2)]
          exact lw (ev.trans (lpRCrash hP pat hpl r hd k (i + 1) (kk + 1) x n (by omega) (by omega) k1 hn))
      · rw [if_neg (by rw [decide_eq_true_eq, List.length_map]; omega), wrap_succ (by omega), wrap_succ (by omega)] at ev
        rw [if_neg (fun e => cp e.1)]
        exact lw (ev.trans (lpRCrash hP pat hpl r hd k (i + 1) (kk + 1) x n (by omega) (by omega) k1 hn))
    · obtain ⟨k1, k2⟩ := hc.turn c
      have hs := hc.ps u (.head _)
      rw [if_neg (by simpa using c)] at ev
      rw [if_neg c]
      have hF := spFirst u n
      have hS := spSize u
      have hfe : (u.first n).1.e = [.int .i64 (u.first n).1.at_, .psl false ((u.first n).1.b.map cB), .bool (u.first n).1.trim, .int .i64 (u.first n).1.to] := rfl
      rw [hu] at hF hS
      rw [hfe] at hF
      rw [hF, bind_some', asTup_tup, asCons_cons, asAgg_agg, asCI_cons, asCS_psl, asCB_cons, asCI_cons, asNil_nil, asCB_cons, asNil_nil] at ev
      have next : ∀ y : Dk, Cok P y (r.done.drop (i + 1)) (if n < u.size then 0 else n - u.size) → (pcall Cω 38 [.agg [.int .i64 u.at_, .psl false (u.b.map cB), .bool u.trim, .int .i64 u.to]]).bind (fun v => asInt .i64 v fun m => if decide (n < m) = true then Lω 28 lcK28_4 0 (stK28_4 (pat.map bo) 0 (kk : Nat) (IntKind.wrap .i64 (((i : Nat) : Int) + 1))) (obs r y) else (pcall Cω 38 [.agg [.int .i64 u.at_, .psl false (u.b.map cB), .bool u.trim, .int .i64 u.to]]).bind fun v => asInt .i64 v fun m => Lω 28 lcK28_4 0 (stK28_4 (pat.map bo) (IntKind.wrap .i64 (n - m)) (kk : Nat) (IntKind.wrap .i64 (((i : Nat) : Int) + 1))) (obs r y)) = some (.exit 0, mkS 68 [(6, .ref 0 0 0), (7, .ref 1 0 0)], obx (crashR pat y (r.done.drop (i + 1)) kk (if n < u.size then 0 else n - u.size))) := by
        intro y hy
        rw [hS, bind_some', asInt_int, wrap_succ (by omega)]
        by_cases c1 : n < u.size
        · rw [if_pos c1] at hy ⊢
          rw [if_pos (decide_eq_true c1)]
          exact lpRCrash hP pat hpl r hd k (i + 1) kk y 0 (by omega) (by omega) hy ⟨by decide, by decide⟩
        · rw [if_neg c1] at hy ⊢
          rw [if_neg (by simpa using c1), bind_some', asInt_int, wrap_i64 (by omega) (by omega)]
          exact lpRCrash hP pat hpl r hd k (i + 1) kk y (n - u.size) (by omega) (by omega) hy ⟨by omega, by omega⟩
      cases hb : (u.first n).2 with
      | true =>
        rw [hb, if_pos rfl] at k1
        have hT := spRTurn (k2 hb)
        have hx : x.e = [.psl false (x.pg.map cB), .int .i64 x.base, .psl false (x.st.map cB)] := rfl
        rw [hfe, hx] at hT
        have n1 := next _ k1
        generalize x.part (u.first n).1 = y at hT n1
        have hy : y.e = [.psl false (y.pg.map cB), .int .i64 y.base, .psl false (y.st.map cB)] := rfl
        rw [hy] at hT
        rw [hb, if_pos rfl, hT, bind_some', asAgg_agg, asCS_psl, asCI_cons, asCS_psl, asNil_nil] at ev
        rw [if_pos rfl]
        exact lw (ev.trans n1)
      | false =>
        rw [hb, if_neg (by decide)] at k1
        rw [hb, if_neg (by decide)] at ev
        rw [if_neg (by decide)]
        exact lw (ev.trans (next _ k1))
theorem spRCrash {P : Nat} (hP : P ≤ 64) {pat : List Bool} (hpl : pat.length < 4611686018427387904) {r : Rf} (hd : r.done.length ≤ 1000000) {n : Int} (hc : Cok P r.kept r.done n) (hn : -9223372036854775808 ≤ n ∧ n ≤ 9223372036854775807) :
    pcall Cω 28 [.agg r.e, .psl false (pat.map bo), .int .i64 n] = some (.agg (r.crash pat n).e) := by
  have ev := eqK28 Cω Lω (r.kept.pg.map cB) r.kept.base (r.kept.st.map cB) (r.now.pg.map cB) r.now.base (r.now.st.map cB) (r.done.map Pt.e) r.gone r.armed (pat.map bo) n
  have lp := lpRCrash hP pat hpl r hd r.done.length 0 0 r.kept n (by omega) (Nat.le_refl _) (by rw [List.drop_zero]; exact hc) hn
  rw [List.drop_zero, natz] at lp
  have hr0 : obs r r.kept = [.box true 53 [.psl false (r.kept.pg.map cB), .int .i64 r.kept.base, .psl false (r.kept.st.map cB), .psl false (r.now.pg.map cB), .int .i64 r.now.base, .psl false (r.now.st.map cB), .psl false (r.done.map Pt.e), .bool r.gone, .int .i64 r.armed], .box true 53 [whole 3 1, .int .i64 0, whole 4 1, whole 5 1, .int .i64 0, whole 6 1, whole 7 4, .bool false, .int .i64 0], .box true 50 [.psl false (r.kept.pg.map cB), .int .i64 r.kept.base, .psl false (r.kept.st.map cB)], .made true 1 [], .made true 1 [], .made true 1 [], .made true 1 [], .made true 4 []] := rfl
  rw [hr0] at lp
  rw [lp] at ev
  unfold Rf.crash
  generalize crashR pat r.kept r.done 0 n = y at ev
  have hy : obx y = [.box true 53 [whole 2 1, .int .i64 0, whole 3 1, whole 4 1, .int .i64 0, whole 5 1, whole 6 4, .bool false, .int .i64 0], .box true 50 [.psl false (y.pg.map cB), .int .i64 y.base, .psl false (y.st.map cB)], .made true 1 [], .made true 1 [], .made true 1 [], .made true 1 [], .made true 4 []] := rfl
  rw [hy] at ev
  have g1 : List.getD (mkS 68 [(6, PV.ref 0 0 0), (7, .ref 1 0 0)]) 6 .undef = .ref 0 0 0 := rfl
  have g2 : List.getD (mkS 68 [(6, PV.ref 0 0 0), (7, .ref 1 0 0)]) 7 .undef = .ref 1 0 0 := rfl
  simp only [asInt_int, asBool_bool, asStr_str, asSl_psl, asSl_nil, asAgg_agg, asTup_tup, asCons_cons, asNil_nil, asFlt_flt, asRef_ref, asWhole_whole, asView_view, asWv_whole, asWv_view, asFn_fn, asPref_pref, asOCons_cons, asONil_nil, asBox_box, asMade_made, asGone_dead, asGone_made, asCI_cons, asCB_cons, asCF_cons, asCS_psl, asCS_nil, asCW_cons, asCR_cons, asOM_cons, asOM_false, asOB_cons, asOB_false, asOG_dead, asOG_made, gS_mk, bind_some', onEx_exit, onEx_ret, g1, g2, if_true] at ev
  exact pc ev rfl

/-! ### Counts -/
theorem spRPending (r : Rf) (hd : r.done.length ≤ 1000000) (hu : ∀ t ∈ tsOf r.done, t.units ≤ 1000000000) : pcall Cω 40 [.agg r.e] = some (.tuple [.int .i64 ((wsOf r.done).length : Nat), .int .i64 (sumU (tsOf r.done))]) := by
  have key : ∀ (k i : Nat) (a : Nat) (s : Int), i + k = r.done.length → a ≤ i → 0 ≤ s → s + sumU (tsOf (r.done.drop i)) ≤ 1000000000000000 →
      Lω 40 lcK40_3 0 (stK40_3 (a : Nat) s (i : Nat)) [.box true 53 r.e] = some (.exit 0, mkS 33 [(4, .int .i64 ((a + (wsOf (r.done.drop i)).length : Nat) : Int)), (5, .int .i64 (s + sumU (tsOf (r.done.drop i))))], []) := by
    intro k
    induction k with
    | zero =>
      intro i a s hi ha hs hb
      have ev := lqK40_3 Cω Lω (a : Nat) s (i : Nat) (r.kept.pg.map cB) r.kept.base (r.kept.st.map cB) (r.now.pg.map cB) r.now.base (r.now.st.map cB) (r.done.map Pt.e) r.gone r.armed
      rw [if_neg (by rw [decide_eq_true_eq, List.length_map]; omega)] at ev
      rw [List.drop_eq_nil_of_le (by omega)]
      refine lw (ev.trans ?_)
      show _ = some (Ex.exit 0, mkS 33 [(4, .int .i64 ((a + 0 : Nat) : Int)), (5, .int .i64 (s + 0))], [])
      rw [Nat.add_zero, Int.add_zero]
    | succ k ih =>
      intro i a s hi ha hs hb
      have hw := List.getElem?_eq_getElem (show i < r.done.length by omega)
      have hdr : r.done.drop i = r.done[i] :: r.done.drop (i + 1) := List.drop_eq_getElem_cons (by omega)
      have hmem : ∀ t ∈ tsOf (r.done.drop i), t.units ≤ 1000000000 := fun t ht => hu t (by
        have : r.done = r.done.take i ++ r.done.drop i := (List.take_append_drop i r.done).symm
        rw [this, tsOf_app]
        exact List.mem_append_right _ ht)
      have ev := lqK40_3 Cω Lω (a : Nat) s (i : Nat) (r.kept.pg.map cB) r.kept.base (r.kept.st.map cB) (r.now.pg.map cB) r.now.base (r.now.st.map cB) (r.done.map Pt.e) r.gone r.armed
      rw [if_pos (by rw [decide_eq_true_eq, List.length_map]; omega), if_pos (by omega), Int.toNat_natCast, mapGt hw, bind_some'] at ev
      rw [hdr] at hb hmem ⊢
      generalize r.done[i] = u at ev hb hmem
      have hue : u.e = [.int .i64 u.at_, .psl false (u.b.map cB), .bool u.trim, .int .i64 u.to] := rfl
      rw [hue, asCI_cons, asCS_psl, asCB_cons, asCI_cons, asNil_nil] at ev
      rw [wsOf_cons, tsOf_cons]
      rw [tsOf_cons] at hb hmem
      by_cases c : 0 ≤ u.at_
      · rw [if_pos c] at hb ⊢
        rw [if_pos c]
        rw [if_pos (decide_eq_true (show u.at_ ≥ 0 from c)), wrap_succ (by omega), wrap_succ (by omega)] at ev
        refine lw (ev.trans ((ih (i + 1) (a + 1) s (by omega) (by omega) hs hb).trans ?_))
        rw [List.length_cons, show a + 1 + (wsOf (r.done.drop (i + 1))).length = a + ((wsOf (r.done.drop (i + 1))).length + 1) by omega]
      · rw [if_neg c] at hb hmem ⊢
        rw [if_neg c]
        have hsz := size_units c
        have hS := spSize u
        rw [hue] at hS
        have hub := hmem _ (.head _)
        have hun := units_nn ⟨u.b, u.trim, u.to⟩
        have hsn := sumU_nn (tsOf (r.done.drop (i + 1)))
        have hb : s + (Tn.units ⟨u.b, u.trim, u.to⟩ + sumU (tsOf (r.done.drop (i + 1)))) ≤ 1000000000000000 := hb
        rw [if_neg (by simpa using c), bind_some', asCI_cons, asCS_psl, asCB_cons, asCI_cons, asNil_nil, hS, bind_some', asInt_int, hsz, wrap_i64 (by omega) (by omega), wrap_succ (by omega)] at ev
        refine lw (ev.trans ((ih (i + 1) a (s + Tn.units ⟨u.b, u.trim, u.to⟩) (by omega) (by omega) (by omega) (by omega)).trans ?_))
        rw [Int.add_assoc]
        rfl
  have ev := eqK40 Cω Lω (r.kept.pg.map cB) r.kept.base (r.kept.st.map cB) (r.now.pg.map cB) r.now.base (r.now.st.map cB) (r.done.map Pt.e) r.gone r.armed
  have htl : ∀ l : List Pt, (tsOf l).length ≤ l.length := by
    intro l
    induction l with
    | nil => exact Nat.le_refl _
    | cons u l ih =>
      rw [tsOf_cons]
      split
      · exact Nat.le_succ_of_le ih
      · exact Nat.succ_le_succ ih
  have hsu := sumU_le hu
  have h9 := htl r.done
  have lp := key r.done.length 0 0 0 (by omega) (Nat.le_refl _) (Int.le_refl _) (by rw [List.drop_zero]; omega)
  rw [List.drop_zero, natz, Nat.zero_add, Int.zero_add] at lp
  have hr0 : r.e = [.psl false (r.kept.pg.map cB), .int .i64 r.kept.base, .psl false (r.kept.st.map cB), .psl false (r.now.pg.map cB), .int .i64 r.now.base, .psl false (r.now.st.map cB), .psl false (r.done.map Pt.e), .bool r.gone, .int .i64 r.armed] := rfl
  rw [hr0] at lp
  rw [lp] at ev
  have g1 : ∀ a b : PV, List.getD (mkS 33 [(4, a), (5, b)]) 4 .undef = a := fun _ _ => rfl
  have g2 : ∀ a b : PV, List.getD (mkS 33 [(4, a), (5, b)]) 5 .undef = b := fun _ _ => rfl
  simp only [asInt_int, asBool_bool, asStr_str, asSl_psl, asSl_nil, asAgg_agg, asTup_tup, asCons_cons, asNil_nil, asFlt_flt, asRef_ref, asWhole_whole, asView_view, asWv_whole, asWv_view, asFn_fn, asPref_pref, asOCons_cons, asONil_nil, asBox_box, asMade_made, asGone_dead, asGone_made, asCI_cons, asCB_cons, asCF_cons, asCS_psl, asCS_nil, asCW_cons, asCR_cons, asOM_cons, asOM_false, asOB_cons, asOB_false, asOG_dead, asOG_made, gS_mk, bind_some', onEx_exit, onEx_ret, g1, g2, if_true] at ev
  exact pc ev rfl

/-! ### A page of bytes; light acts -/
theorem spPage (b : By) (hb : b.length < 4611686018427387904) : ∃ p : By, p.length = 512 ∧ pcall Cω 22 [bv b] = some (bv p) := by
  have key : ∀ (k i : Nat) (q : By), i + k = 512 → q.length = 512 → ∃ p : By, p.length = 512 ∧ Lω 22 lcK22_3 0 (stK22_3 (b.map cB) (i : Nat)) [.made true 1 (q.map cB)] = some (.exit 0, mkS 28 [(3, whole 0 1)], [.made true 1 (p.map cB)]) := by
    intro k
    induction k with
    | zero =>
      intro i q hi hq
      refine ⟨q, hq, lw ?_⟩
      rw [lqK22_3, if_neg (by rw [decide_eq_true_eq, List.length_map]; omega)]
    | succ k ih =>
      intro i q hi hq
      have ev := lqK22_3 Cω Lω (b.map cB) (i : Nat) (q.map cB)
      rw [List.length_map, List.length_map, if_pos (by rw [decide_eq_true_eq]; omega)] at ev
      by_cases c : 0 < b.length
      · have hm : i % b.length < b.length := Nat.mod_lt _ c
        have hg := List.getElem?_eq_getElem hm
        rw [if_pos (by rw [decide_eq_true_eq]; omega), remT _ c, bind_some', asInt_int, if_pos (by omega), Int.toNat_natCast, mapGt hg, bind_some', show cB b[i % b.length] = [.int .u8 (b[i % b.length].toNat : Nat)] from rfl, asCI_cons, asNil_nil, if_pos ⟨by omega, by omega⟩, Int.toNat_natCast, if_pos (by omega), wrap_succ (by omega)] at ev
        obtain ⟨p, p1, p2⟩ := ih (i + 1) (q.set i b[i % b.length]) (by omega) (by rw [List.length_set]; exact hq)
        rw [List.map_set] at p2
        exact ⟨p, p1, lw (ev.trans p2)⟩
      · rw [if_neg (by rw [decide_eq_true_eq]; omega)] at ev
        exact ⟨q, hq, lw ev⟩
  have ev := eqK22 Cω Lω (b.map cB)
  rw [if_pos ⟨by decide, rfl, by decide, by decide⟩] at ev
  obtain ⟨p, p1, p2⟩ := key 512 0 (List.replicate 512 0) (by omega) List.length_replicate
  have hz : List.replicate (Int.toNat 512) [PV.int .u8 0] = (List.replicate 512 (0 : UInt8)).map cB := by rw [List.map_replicate]; rfl
  rw [natz] at p2
  rw [hz, p2] at ev
  have g1 : List.getD (mkS 28 [(3, whole 0 1)]) 3 .undef = whole 0 1 := rfl
  simp only [asInt_int, asBool_bool, asStr_str, asSl_psl, asSl_nil, asAgg_agg, asTup_tup, asCons_cons, asNil_nil, asFlt_flt, asRef_ref, asWhole_whole, asView_view, asWv_whole, asWv_view, asFn_fn, asPref_pref, asOCons_cons, asONil_nil, asBox_box, asMade_made, asGone_dead, asGone_made, asCI_cons, asCB_cons, asCF_cons, asCS_psl, asCS_nil, asCW_cons, asCR_cons, asOM_cons, asOM_false, asOB_cons, asOB_false, asOG_dead, asOG_made, gS_mk, bind_some', onEx_exit, onEx_ret, g1, if_true] at ev
  exact ⟨p, p1, pc ev rfl⟩
structure Ac where
  d : Int
  g : Int
  b : By
  n : Int
  p : List Bool
def Ac.e (a : Ac) : List PV := [.int .i64 a.d, .int .i64 a.g, bv a.b, .int .i64 a.n, .psl false (a.p.map bo)]
theorem spLight (l : List Ac) (hl : l.length < 4611686018427387904) : ∃ b : Bool, pcall Cω 19 [.psl false (l.map Ac.e)] = some (.bool b) := by
  have key : ∀ (k i : Nat) (s : Int), i + k = l.length → ∃ x, Lω 19 lcK19_3 0 (stK19_3 (l.map Ac.e) s (i : Nat)) [] = some x ∧ (x = (.exit 0, mkS 55 [], []) ∨ ∃ b : Bool, x = (.ret, mkS 55 [(2, .bool b)], [])) := by
    intro k
    induction k with
    | zero =>
      intro i s hi
      refine ⟨_, lw (by rw [lqK19_3, if_neg (by rw [decide_eq_true_eq, List.length_map]; omega)]), .inl rfl⟩
    | succ k ih =>
      intro i s hi
      have hw := List.getElem?_eq_getElem (show i < l.length by omega)
      have ev := lqK19_3 Cω Lω (l.map Ac.e) s (i : Nat)
      have hm := mapGt (f := Ac.e) hw
      rw [if_pos (by rw [decide_eq_true_eq, List.length_map]; omega), Int.toNat_natCast, hm] at ev
      generalize l[i] = a at ev
      have hae : a.e = [.int .i64 a.d, .int .i64 a.g, .psl false (a.b.map cB), .int .i64 a.n, .psl false (a.p.map bo)] := rfl
      have hi0 : (0 : Int) ≤ ((i : Nat) : Int) := by omega
      simp only [hae, asInt_int, asBool_bool, asStr_str, asSl_psl, asSl_nil, asAgg_agg, asTup_tup, asCons_cons, asNil_nil, asFlt_flt, asRef_ref, asWhole_whole, asView_view, asWv_whole, asWv_view, asFn_fn, asPref_pref, asOCons_cons, asONil_nil, asBox_box, asMade_made, asGone_dead, asGone_made, asCI_cons, asCB_cons, asCF_cons, asCS_psl, asCS_nil, asCW_cons, asCR_cons, asOM_cons, asOM_false, asOB_cons, asOB_false, asOG_dead, asOG_made, gS_mk, bind_some', onEx_exit, onEx_ret, if_pos hi0, wrap_succ (show i < 4611686018427387904 by omega)] at ev
      by_cases c0 : decide (((i : Nat) : Int) < 40) = true
      case neg => rw [if_neg c0] at ev; exact ⟨_, lw ev, .inl rfl⟩
      rw [if_pos c0] at ev
      have fin : ∀ t, (Lω 19 lcK19_3 0 (stK19_3 (l.map Ac.e) t ((i + 1 : Nat) : Int)) []) = (Lω 19 lcK19_3 0 (stK19_3 (l.map Ac.e) t ((i + 1 : Nat) : Int)) []) := fun _ => rfl
      have nxt : ∀ t, stepLKK cfg kcfg Cω Lω 19 lcK19_3 0 (stK19_3 (l.map Ac.e) s (i : Nat)) [] = Lω 19 lcK19_3 0 (stK19_3 (l.map Ac.e) t ((i + 1 : Nat) : Int)) [] → ∃ x, Lω 19 lcK19_3 0 (stK19_3 (l.map Ac.e) s (i : Nat)) [] = some x ∧ (x = (.exit 0, mkS 55 [], []) ∨ ∃ b : Bool, x = (.ret, mkS 55 [(2, .bool b)], [])) := fun t h => by
        obtain ⟨x, x1, x2⟩ := ih (i + 1) t (by omega)
        exact ⟨x, lw (h.trans x1), x2⟩
      repeat' (split at ev)
      all_goals first
        | exact ⟨_, lw ev, .inl rfl⟩
        | exact ⟨_, lw ev, .inr ⟨_, rfl⟩⟩
        | exact nxt _ ev
  have ev := eqK19 Cω Lω (l.map Ac.e)
  obtain ⟨x, x1, x2⟩ := key l.length 0 0 (by omega)
  rw [natz] at x1
  rw [x1] at ev
  rcases x2 with rfl | ⟨b, rfl⟩
  · simp only [asInt_int, asBool_bool, asStr_str, asSl_psl, asSl_nil, asAgg_agg, asTup_tup, asCons_cons, asNil_nil, asFlt_flt, asRef_ref, asWhole_whole, asView_view, asWv_whole, asWv_view, asFn_fn, asPref_pref, asOCons_cons, asONil_nil, asBox_box, asMade_made, asGone_dead, asGone_made, asCI_cons, asCB_cons, asCF_cons, asCS_psl, asCS_nil, asCW_cons, asCR_cons, asOM_cons, asOM_false, asOB_cons, asOB_false, asOG_dead, asOG_made, gS_mk, bind_some', onEx_exit, onEx_ret, if_true] at ev
    exact ⟨true, pc ev rfl⟩
  · have g1 : List.getD (mkS 55 [(2, PV.bool b)]) 2 .undef = .bool b := rfl
    simp only [asInt_int, asBool_bool, asStr_str, asSl_psl, asSl_nil, asAgg_agg, asTup_tup, asCons_cons, asNil_nil, asFlt_flt, asRef_ref, asWhole_whole, asView_view, asWv_whole, asWv_view, asFn_fn, asPref_pref, asOCons_cons, asONil_nil, asBox_box, asMade_made, asGone_dead, asGone_made, asCI_cons, asCB_cons, asCF_cons, asCS_psl, asCS_nil, asCW_cons, asCR_cons, asOM_cons, asOM_false, asOB_cons, asOB_false, asOG_dead, asOG_made, gS_mk, bind_some', onEx_exit, onEx_ret, g1] at ev
    exact ⟨b, pc ev rfl⟩
end Go.Pvm.S
