/- Part of the proof: the laws of groups: which images are a group; the groups of any bytes. -/
import Derived.Test.YtpilgmnhkgcgkaaRedoD
set_option linter.unusedSimpArgs false
set_option linter.unusedVariables false
set_option maxRecDepth 100000
namespace Go.Pvm.S
open Go.Pvm Go.Proofs Go.Pvm.Crc
section
variable {v w o v' : PV} {g g' : List Img} {b x : List UInt8} {σ : Store}
theorem lpCodes {bs : List (List UInt8)} (hb : IsS RBB w bs) (hbl : bs.length < 4611686018427387904) (u : PV) (σ : Store) : ∀ (k i : Nat), i + k = bs.length →
    ∃ r, loopω cfg 3 lc3_5 (st3_5 w u (i : Nat)) σ = some r ∧ (r = (.ret, ret3_5 true, σ) ∨ r = (.exit 0, out3_5 u, σ))
  | 0, i, hi => by
    refine ⟨_, loopω_ofK ((lq3_5 _ _ _ _ _ _).trans ?_), .inr rfl⟩
    simp only [hb.len TBB, bind_some', asInt_int, nltN (show bs.length ≤ i by omega), Bool.false_eq_true, if_false]
  | k + 1, i, hi => by
    have ev := lq3_5 (callω cfg) (loopω cfg) σ w u (i : Nat)
    have hw := List.getElem?_eq_getElem (show i < bs.length by omega)
    obtain ⟨e, i1, ub, rfl, hub⟩ := hb.idx TBB okBB hw .i64
    by_cases c3 : ((i : Nat) : Int) < 9
    · by_cases c4 : ((((bs[i]'(by omega)).length : Nat) : Int)) > 600
      · simp only [hb.len TBB, bind_some', asInt_int, ltN (show i < bs.length by omega), c3, decide_true, if_true, i1, ldtB, hub.len TB, c4, cEAwake (c2 := cfg) rfl rfl, asBool_bool] at ev
        exact ⟨_, loopω_ofK ev, .inl rfl⟩
      · obtain ⟨r, r1, r2⟩ := lpCodes hb hbl u σ k (i + 1) (by omega)
        simp only [hb.len TBB, bind_some', asInt_int, ltN (show i < bs.length by omega), c3, decide_true, if_true, i1, ldtB, hub.len TB, c4, decide_false, Bool.false_eq_true, if_false, wrap_succ (show i < 4611686018427387904 by omega)] at ev
        exact ⟨r, loopω_ofK (ev.trans r1), r2⟩
    · simp only [hb.len TBB, bind_some', asInt_int, ltN (show i < bs.length by omega), c3, decide_false, if_true, Bool.false_eq_true, if_false] at ev
      exact ⟨_, loopω_ofK ev, .inr rfl⟩

theorem spCodes {ps : List Int} {bs : List (List UInt8)} {odd : List UInt8} (hp : IsS RN v ps) (hb : IsS RBB w bs) (hbl : bs.length < 4611686018427387904) (hbe : ∀ b ∈ bs, b.length < 4611686018427387904) (ho : IsS RB o odd) :
    ∃ σ', callω cfg 3 [v, w, o] .empty = some (.bool true, σ') := by
  have ev := eq3 (callω cfg) (loopω cfg) .empty v w o
  obtain ⟨u0, τ0, i1, i2, i3, i4⟩ := cEImages hp hb hbe .empty
  have hil := imgs_len ps bs
  simp only [i1, bind_some', ho.len TB, asInt_int] at ev
  -- what follows, whatever the group
  have z0 : ((0 : Int) == 0) = true := rfl
  have z1 : ((1 : Int) == 1) = true := rfl
  have z2 : ((1 : Int) == 0) = false := rfl
  by_cases c1 : ((odd.length : Nat) : Int) > 0
  · by_cases c2 : ((odd.length : Nat) : Int) < 600
    · obtain ⟨u, τ, q1, q2, q3, q4⟩ := i2.app1 TI okI (All2.one (show RI [.int .i64 63, o] (63, odd) from ⟨o, rfl, ho⟩)) (by simp; omega) (n := 1) rfl
      simp only [c1, c2, decide_true, if_true, bvI _ ho.plain, bsI1, bind_some', q1] at ev
      generalize hg : imgs ps bs ++ [((63 : Int), odd)] = g at q2
      have hgl : g.length ≤ 10 := by rw [← hg]; simp; omega
      obtain ⟨r, l1, l2⟩ := lpCodes hb hbl u τ bs.length 0 (by omega)
      rw [natz] at l1
      rcases l2 with rfl | rfl
      · simp only [l1, bind_some', onEx_ret, ret3_5_6, asBool_bool] at ev
        exact ⟨_, callω_ofK hT ev⟩
      · simp only [l1, bind_some', onEx_exit, if_true, out3_5_7] at ev
        cases hmy : may g with
        | false =>
          have e1 := cEEncodeNo q2.q (by omega) hmy
          simp only [e1, bind_some', tupv_0, tupv_1, asInt_int, cECheck (c2 := cfg) rfl rfl q2.q (show g.length ≤ 1000000 by omega), cEMay (c2 := cfg) rfl rfl q2.q (show g.length ≤ 1000000 by omega), hmy, asBool_bool, Bool.false_eq_true, if_false, z2, z1, beq_self_eq_true, Bool.not_true, Bool.not_false, if_true, (IsS.nil (R := RB)).len TB, List.length_nil, natz, z0, cEAwake (c2 := cfg) rfl rfl] at ev
          exact ⟨_, callω_ofK hT ev⟩
        | true =>
          obtain ⟨τ2, id, e1, e2, e3, e4, e5⟩ := cEEncode q2.q hmy
          have hu2 := q2.kp e5 (fun _ _ h => by cases h)
          have hrl : (record g).length = 7 + 513 * g.length := record_len fun m hm => (may_all hmy m hm).2.2
          have hqr := rowQ (cap := none) e2 rfl e4
          obtain ⟨v3, τ3, f1, f2, f3⟩ := cEFirst hqr (rowLf e2) (by omega)
          have hfr : first (record g) = (g, (record g).length, 0) := by have := first_record hmy []; rwa [List.append_nil] at this
          rw [hfr] at f1 f2
          have hu3 := hu2.rl f3
          obtain ⟨τ4, ro1, ro2⟩ := roAll_ok (tops u) τ3 (hu3.lf okI)
          have hz := hu3.frz okI 6
          have hz' : IsS RI (fz fuelFz τ3 u) g := hz
          obtain ⟨v4, r1, r2⟩ := spRecord hz' hmy
          have r1' := callE_pure (c2 := cfgS) (cfg := cfg) (f := 14) (args := [fz fuelFz τ3 u]) (σ := τ4) rfl (by kernel_rfl) (by simp only [List.map_cons, List.map_nil]; rw [fzA hz']) r1 (.inr (lfs1 hz'.lf))
          have hqr4 := (hqr.rl f3).rl ro2
          have hsm := cESame (c2 := cfgS) rfl rfl (f2.q τ4 2) (hz'.q τ4 2) (show g.length ≤ 1000000 by omega)
          simp only [e1, bind_some', tupv_0, tupv_1, tupv_2, asInt_int, cECheck (c2 := cfg) rfl rfl hu2.q (show g.length ≤ 1000000 by omega), cEMay (c2 := cfg) rfl rfl hu2.q (show g.length ≤ 1000000 by omega), hmy, asBool_bool, asStr_str, Bool.false_eq_true, if_false, z0, beq_self_eq_true, Bool.not_true, if_true, f1, ro1, hqr4.str uStr TB uB, r1', r2.str uStr TB uB, strEq, hqr4.len TB, hsm, decide_true, cEAwake (c2 := cfgS) rfl rfl] at ev
          exact ⟨_, callω_ofK hT ev⟩
    · simp only [c1, c2, decide_true, decide_false, if_true, Bool.false_eq_true, if_false] at ev
      generalize hτ : τ0 = τ at ev i2
      generalize hu0 : u0 = u at ev i2
      have q2 := i2
      generalize hg : imgs ps bs = g at q2
      have hgl : g.length ≤ 10 := by rw [← hg]; omega
      obtain ⟨r, l1, l2⟩ := lpCodes hb hbl u τ bs.length 0 (by omega)
      rw [natz] at l1
      rcases l2 with rfl | rfl
      · simp only [l1, bind_some', onEx_ret, ret3_5_6, asBool_bool] at ev
        exact ⟨_, callω_ofK hT ev⟩
      · simp only [l1, bind_some', onEx_exit, if_true, out3_5_7] at ev
        cases hmy : may g with
        | false =>
          have e1 := cEEncodeNo q2.q (by omega) hmy
          simp only [e1, bind_some', tupv_0, tupv_1, asInt_int, cECheck (c2 := cfg) rfl rfl q2.q (show g.length ≤ 1000000 by omega), cEMay (c2 := cfg) rfl rfl q2.q (show g.length ≤ 1000000 by omega), hmy, asBool_bool, Bool.false_eq_true, if_false, z2, z1, beq_self_eq_true, Bool.not_true, Bool.not_false, if_true, (IsS.nil (R := RB)).len TB, List.length_nil, natz, z0, cEAwake (c2 := cfg) rfl rfl] at ev
          exact ⟨_, callω_ofK hT ev⟩
        | true =>
          obtain ⟨τ2, id, e1, e2, e3, e4, e5⟩ := cEEncode q2.q hmy
          have hu2 := q2.kp e5 (fun _ _ h => by cases h)
          have hrl : (record g).length = 7 + 513 * g.length := record_len fun m hm => (may_all hmy m hm).2.2
          have hqr := rowQ (cap := none) e2 rfl e4
          obtain ⟨v3, τ3, f1, f2, f3⟩ := cEFirst hqr (rowLf e2) (by omega)
          have hfr : first (record g) = (g, (record g).length, 0) := by have := first_record hmy []; rwa [List.append_nil] at this
          rw [hfr] at f1 f2
          have hu3 := hu2.rl f3
          obtain ⟨τ4, ro1, ro2⟩ := roAll_ok (tops u) τ3 (hu3.lf okI)
          have hz := hu3.frz okI 6
          have hz' : IsS RI (fz fuelFz τ3 u) g := hz
          obtain ⟨v4, r1, r2⟩ := spRecord hz' hmy
          have r1' := callE_pure (c2 := cfgS) (cfg := cfg) (f := 14) (args := [fz fuelFz τ3 u]) (σ := τ4) rfl (by kernel_rfl) (by simp only [List.map_cons, List.map_nil]; rw [fzA hz']) r1 (.inr (lfs1 hz'.lf))
          have hqr4 := (hqr.rl f3).rl ro2
          have hsm := cESame (c2 := cfgS) rfl rfl (f2.q τ4 2) (hz'.q τ4 2) (show g.length ≤ 1000000 by omega)
          simp only [e1, bind_some', tupv_0, tupv_1, tupv_2, asInt_int, cECheck (c2 := cfg) rfl rfl hu2.q (show g.length ≤ 1000000 by omega), cEMay (c2 := cfg) rfl rfl hu2.q (show g.length ≤ 1000000 by omega), hmy, asBool_bool, asStr_str, Bool.false_eq_true, if_false, z0, beq_self_eq_true, Bool.not_true, if_true, f1, ro1, hqr4.str uStr TB uB, r1', r2.str uStr TB uB, strEq, hqr4.len TB, hsm, decide_true, cEAwake (c2 := cfgS) rfl rfl] at ev
          exact ⟨_, callω_ofK hT ev⟩
  · simp only [c1, decide_true, decide_false, if_true, Bool.false_eq_true, if_false] at ev
    generalize hτ : τ0 = τ at ev i2
    generalize hu0 : u0 = u at ev i2
    have q2 := i2
    generalize hg : imgs ps bs = g at q2
    have hgl : g.length ≤ 10 := by rw [← hg]; omega
    obtain ⟨r, l1, l2⟩ := lpCodes hb hbl u τ bs.length 0 (by omega)
    rw [natz] at l1
    rcases l2 with rfl | rfl
    · simp only [l1, bind_some', onEx_ret, ret3_5_6, asBool_bool] at ev
      exact ⟨_, callω_ofK hT ev⟩
    · simp only [l1, bind_some', onEx_exit, if_true, out3_5_7] at ev
      cases hmy : may g with
      | false =>
        have e1 := cEEncodeNo q2.q (by omega) hmy
        simp only [e1, bind_some', tupv_0, tupv_1, asInt_int, cECheck (c2 := cfg) rfl rfl q2.q (show g.length ≤ 1000000 by omega), cEMay (c2 := cfg) rfl rfl q2.q (show g.length ≤ 1000000 by omega), hmy, asBool_bool, Bool.false_eq_true, if_false, z2, z1, beq_self_eq_true, Bool.not_true, Bool.not_false, if_true, (IsS.nil (R := RB)).len TB, List.length_nil, natz, z0, cEAwake (c2 := cfg) rfl rfl] at ev
        exact ⟨_, callω_ofK hT ev⟩
      | true =>
        obtain ⟨τ2, id, e1, e2, e3, e4, e5⟩ := cEEncode q2.q hmy
        have hu2 := q2.kp e5 (fun _ _ h => by cases h)
        have hrl : (record g).length = 7 + 513 * g.length := record_len fun m hm => (may_all hmy m hm).2.2
        have hqr := rowQ (cap := none) e2 rfl e4
        obtain ⟨v3, τ3, f1, f2, f3⟩ := cEFirst hqr (rowLf e2) (by omega)
        have hfr : first (record g) = (g, (record g).length, 0) := by have := first_record hmy []; rwa [List.append_nil] at this
        rw [hfr] at f1 f2
        have hu3 := hu2.rl f3
        obtain ⟨τ4, ro1, ro2⟩ := roAll_ok (tops u) τ3 (hu3.lf okI)
        have hz := hu3.frz okI 6
        have hz' : IsS RI (fz fuelFz τ3 u) g := hz
        obtain ⟨v4, r1, r2⟩ := spRecord hz' hmy
        have r1' := callE_pure (c2 := cfgS) (cfg := cfg) (f := 14) (args := [fz fuelFz τ3 u]) (σ := τ4) rfl (by kernel_rfl) (by simp only [List.map_cons, List.map_nil]; rw [fzA hz']) r1 (.inr (lfs1 hz'.lf))
        have hqr4 := (hqr.rl f3).rl ro2
        have hsm := cESame (c2 := cfgS) rfl rfl (f2.q τ4 2) (hz'.q τ4 2) (show g.length ≤ 1000000 by omega)
        simp only [e1, bind_some', tupv_0, tupv_1, tupv_2, asInt_int, cECheck (c2 := cfg) rfl rfl hu2.q (show g.length ≤ 1000000 by omega), cEMay (c2 := cfg) rfl rfl hu2.q (show g.length ≤ 1000000 by omega), hmy, asBool_bool, asStr_str, Bool.false_eq_true, if_false, z0, beq_self_eq_true, Bool.not_true, if_true, f1, ro1, hqr4.str uStr TB uB, r1', r2.str uStr TB uB, strEq, hqr4.len TB, hsm, decide_true, cEAwake (c2 := cfgS) rfl rfl] at ev
        exact ⟨_, callω_ofK hT ev⟩

/-! ### The groups of any bytes -/
theorem ldtI (σ : Store) (c : PV) (r : List PV) : loadv Try.prog σ 25 (.pref (c :: r)) = some c := by kernel_rfl
theorem first_gl (b : List UInt8) : (first b).1.length ≤ 6 := by
  unfold first
  split
  · simp
  · split
    · simp
    · split
      · simp
      · split
        · simp
        · split
          · simp
          · split
            · rename_i h; exact (may_len h).2
            · simp
theorem rowN_gl : ∀ (k : Nat) (b : List UInt8) (p : Nat), ∀ g ∈ (rowN k b p).1, g.length ≤ 6
  | 0, b, p, g, h => by cases h
  | k + 1, b, p, g, h => by
    unfold rowN at h
    split at h
    · cases h
    · rcases List.mem_cons.1 h with rfl | h
      · exact first_gl _
      · exact rowN_gl k b _ g h
theorem rowN_len : ∀ (k : Nat) (b : List UInt8) (p : Nat), (rowN k b p).1.length ≤ k
  | 0, b, p => Nat.le_refl _
  | k + 1, b, p => by
    unfold rowN
    split
    · simp
    · have := rowN_len k b (p + (first (b.drop p)).2.1); simp; omega
theorem lpRows {gs : List (List Img)} (h : IsS RG v gs) (h' : IsS RG v' gs) (hs : ∀ g ∈ gs, g.length ≤ 6) (hl : gs.length ≤ 1000000) (σ : Store) : ∀ (k i : Nat), i + k = gs.length → loopω cfg 5 lc5_10 (st5_10 v v' (i : Nat)) σ = some (.exit 0, out5_10, σ)
  | 0, i, hi => by
    refine loopω_ofK ((lq5_10 _ _ _ _ _ _).trans ?_)
    simp only [h.len TG, bind_some', asInt_int, nltN (show gs.length ≤ i by omega), Bool.false_eq_true, if_false]
  | k + 1, i, hi => by
    have hw := List.getElem?_eq_getElem (show i < gs.length by omega)
    obtain ⟨e, i1, u, rfl, hu⟩ := h.idx TG okG hw .i64
    obtain ⟨e', i1', u', rfl, hu'⟩ := h'.idx TG okG hw .i64
    have hgl := hs _ (List.mem_of_getElem? hw)
    refine loopω_ofK ((lq5_10 _ _ _ _ _ _).trans ?_)
    simp only [h.len TG, bind_some', asInt_int, ltN (show i < gs.length by omega), if_true, i1, i1', ldtI, cESame (c2 := cfgS) rfl rfl (hu.q σ 2) (hu'.q σ 2) (by omega), asBool_bool, decide_true, Bool.not_true, Bool.false_eq_true, if_false, wrap_succ (show i < 4611686018427387904 by omega)]
    exact lpRows h h' hs hl σ k (i + 1) (by omega)
theorem spRows (h : IsS RB v b) (hbl : b.length < 4611686018427387904) : ∃ σ', callω cfg 5 [v] .empty = some (.bool true, σ') := by
  have ev := eq5 (callω cfg) (loopω cfg) .empty v
  by_cases c1 : ((b.length : Nat) : Int) > 8000
  · simp only [h.len TB, bind_some', asInt_int, c1, decide_true, if_true, cEAwake (c2 := cfg) rfl rfl, asBool_bool] at ev
    exact ⟨_, callω_ofK hT ev⟩
  · obtain ⟨u, τ, q1, q2, q3, q4⟩ := (AxS.fresh (R := RB) (l := []) .nil .empty 1 (n := 0) rfl).appQ TB okB (h.q _ 1) (by simp; omega)
    rw [List.nil_append] at q2
    obtain ⟨v1, τ1, f1, f2, f3⟩ := cEFirst q2.q (q2.lf okB) (by omega)
    obtain ⟨v2, g1, g2⟩ := cERFirstP h (by omega) τ1
    obtain ⟨v3, r1, r2⟩ := cERowP h (by omega) τ1
    obtain ⟨v4, s1, s2⟩ := cERRowP h (by omega) τ1
    have hgl := first_gl b
    have hrl : (rowG b).1.length ≤ 1000000 := Nat.le_trans (rowN_len _ _ _) (by omega)
    have hlp := lpRows r2 s2 (rowN_gl _ _ _) hrl τ1 (rowG b).1.length 0 (by omega)
    rw [natz] at hlp
    simp only [h.len TB, bind_some', asInt_int, c1, decide_false, Bool.false_eq_true, if_false, bsB0, q1, f1, tupv_0, tupv_1, tupv_2, g1, r1, s1, bne_self_eq_false, cESame (c2 := cfg) rfl rfl (f2.q τ1 2) (g2.q τ1 2) (by omega), decide_true, asBool_bool, Bool.not_true, r2.len TG, s2.len TG, hlp, onEx_exit, if_true, cEAwake (c2 := cfg) rfl rfl] at ev
    exact ⟨_, callω_ofK hT ev⟩
end
end Go.Pvm.S
