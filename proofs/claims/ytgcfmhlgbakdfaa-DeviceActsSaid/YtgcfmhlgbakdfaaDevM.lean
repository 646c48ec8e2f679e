/- Part of the proof: the device's stream: torn, full. -/
import Derived.Test.YtgcfmhlgbakdfaaDevL
set_option linter.unusedSimpArgs false
set_option linter.unusedVariables false
set_option maxRecDepth 100000
namespace Go.Pvm.S
open Go.Pvm Go.Proofs

/-! ### Plain -/
def sumU : List Tn → Int
  | [] => 0
  | t :: r => t.units + sumU r
theorem units_nn (t : Tn) : 0 ≤ t.units := by unfold Tn.units; split <;> omega
theorem sumU_nn : ∀ ts : List Tn, 0 ≤ sumU ts
  | [] => Int.le_refl _
  | t :: ts => by have := units_nn t; have := sumU_nn ts; show 0 ≤ t.units + sumU ts; omega
theorem sumU_le {ts : List Tn} (h : ∀ t ∈ ts, t.units ≤ 1000000000) : sumU ts ≤ 1000000000 * ts.length := by
  induction ts with
  | nil => show (0 : Int) ≤ _; simp
  | cons t ts ih =>
    have h1 := h t (.head _)
    have h2 := ih fun x hx => h x (.tail _ hx)
    show t.units + sumU ts ≤ _
    rw [List.length_cons]
    omega
theorem oks_units : ∀ (ts : List Tn) (x : Dk), oks x ts → ∀ t ∈ ts, t.units ≤ 1000000000
  | [], _, _, t, h => by cases h
  | s :: ts, x, h, t, ht => by
    rcases List.mem_cons.1 ht with rfl | ht
    · unfold Tn.units
      have := h.2.2.1
      split <;> omega
    · exact oks_units ts _ h.2.2.2 t ht
theorem app_seen (d : Dv) (b : By) : (d.app b).seen = d.seen.turn ⟨b, false, 0⟩ ∧ (d.app b).kept = d.kept ∧ (d.app b).ws = d.ws ∧ (d.app b).ts.length ≤ d.ts.length + 1 := by
  have h := counts_same { d with seen := d.seen.turn ⟨b, false, 0⟩ } (b.length : Nat)
  have happ : d.app b = if (({ d with seen := d.seen.turn ⟨b, false, 0⟩ } : Dv).counts (b.length : Nat)).1 > 0 then { (({ d with seen := d.seen.turn ⟨b, false, 0⟩ } : Dv).counts (b.length : Nat)).2 with ts := d.ts ++ [⟨b.take (({ d with seen := d.seen.turn ⟨b, false, 0⟩ } : Dv).counts (b.length : Nat)).1.toNat, false, 0⟩] } else (({ d with seen := d.seen.turn ⟨b, false, 0⟩ } : Dv).counts (b.length : Nat)).2 := rfl
  rw [happ]
  split
  · exact ⟨h.1, h.2.1, h.2.2.1, by show (d.ts ++ [_]).length ≤ _; simp⟩
  · exact ⟨h.1, h.2.1, h.2.2.1, by rw [h.2.2.2]; exact Nat.le_succ _⟩
theorem trim_seen (d : Dv) (p : Int) : (d.trim p).seen = d.seen.turn ⟨[], true, p⟩ ∧ (d.trim p).kept = d.kept ∧ (d.trim p).ws = d.ws ∧ (d.trim p).ts.length ≤ d.ts.length + 1 := by
  have h := counts_same { d with seen := d.seen.turn ⟨[], true, p⟩ } 1
  have htr : d.trim p = if (({ d with seen := d.seen.turn ⟨[], true, p⟩ } : Dv).counts 1).1 = 1 then { (({ d with seen := d.seen.turn ⟨[], true, p⟩ } : Dv).counts 1).2 with ts := d.ts ++ [⟨[], true, p⟩] } else (({ d with seen := d.seen.turn ⟨[], true, p⟩ } : Dv).counts 1).2 := rfl
  rw [htr]
  split
  · exact ⟨h.1, h.2.1, h.2.2.1, by show (d.ts ++ [_]).length ≤ _; simp⟩
  · exact ⟨h.1, h.2.1, h.2.2.1, by rw [h.2.2.2]; exact Nat.le_succ _⟩
/-- Nothing is armed: all is to be synced. -/
theorem app_calm {d : Dv} (ha : d.armed = -1) (hg : d.gone = false) (b : By) : d.app b = { d with seen := d.seen.turn ⟨b, false, 0⟩, ts := if 0 < b.length then d.ts ++ [⟨b, false, 0⟩] else d.ts } := by
  have h : (({ d with seen := d.seen.turn ⟨b, false, 0⟩ } : Dv).counts (b.length : Nat)) = (((b.length : Nat) : Int), { d with seen := d.seen.turn ⟨b, false, 0⟩ }) := by
    unfold Dv.counts
    rw [if_neg (by show ¬ d.gone = true; rw [hg]; decide), if_pos (by show d.armed < 0; rw [ha]; decide)]
  unfold Dv.app
  rw [h]
  simp only [Int.toNat_natCast, List.take_of_length_le (Nat.le_refl b.length)]
  by_cases hb : 0 < b.length
  · rw [if_pos (by omega), if_pos hb]
  · rw [if_neg (by omega), if_neg hb]

section
variable {σ : Store} {v u : PV} {id : Nat} {g : Nat → Nat} {d : Dv} {a b l l' : By}
theorem strAdd {P : Program} (t : TypeId) (h : l.length + l'.length ≤ 1000000000) : binv P .add t (.str (strB l)) (.str (strB l')) = some (.str (strB (l ++ l'))) := by
  have e : strB l ++ strB l' = strB (l ++ l') := by
    apply ByteArray.ext
    simp [strB]
  have s1 : (strB l).size = l.length := rfl
  have s2 : (strB l').size = l'.length := rfl
  have hm : IntKind.max .i64 = 9223372036854775807 := by decide
  simp only [binv, strv, e, s1, s2, hm]
  rw [if_pos (by omega)]
theorem ldTp (σ : Store) (x y z : PV) : loadv Try.prog σ 78 (.pref [x, y, z]) = some (.agg [x, y, z]) := by kernel_rfl
theorem faP6 (c0 c1 c2 c3 c4 c5 c6 c7 c8 c9 : PV) : fieldAddrv Try.prog 72 (.pref [c0, c1, c2, c3, c4, c5, c6, c7, c8, c9]) 2 = some (.pref [c6, c7, c8, c9]) := by kernel_rfl
theorem ldtW (σ : Store) (c : PV) (r : List PV) : loadv Try.prog σ 69 (.pref (c :: r)) = some c := by kernel_rfl
theorem lpPending {p : PV} {ts : List Tn} (h : IsS RT v ts) (hl : ts.length ≤ 1000000) (hu : ∀ t ∈ ts, t.units ≤ 1000000000) : ∀ (k i : Nat) (σ : Store) (acc : Int), i + k = ts.length → 0 ≤ acc → acc + sumU (ts.drop i) ≤ 1000000000000000 →
    ∃ τ, loopω cfg 16 lc16_5 (st16_5 p acc v (ts.length : Nat) (i : Nat)) σ = some (.exit 0, out16_5 p (acc + sumU (ts.drop i)), τ)
  | 0, i, σ, acc, hi, h0, hb => by
    refine ⟨σ, loopω_ofK ((lq16_5 _ _ _ _ _ _ _ _).trans ?_)⟩
    simp only [nltN (show ts.length ≤ i by omega), Bool.false_eq_true, if_false]
    rw [List.drop_eq_nil_of_le (by omega)]
    show _ = some (Ex.exit 0, out16_5 p (acc + 0), σ)
    rw [Int.add_zero]
  | k + 1, i, σ, acc, hi, h0, hb => by
    have hw := List.getElem?_eq_getElem (show i < ts.length by omega)
    obtain ⟨e, k1, w, rfl, k2⟩ := h.idx TT okT hw .i64
    have ht := hu _ (List.getElem_mem (show i < ts.length by omega))
    have hd := drop_at hw
    generalize ts[i]'(by omega) = t at k1 k2 ht hd
    rw [hd] at hb ⊢
    have hs := sumU_nn (ts.drop (i + 1))
    have hn := units_nn t
    have hb : acc + (t.units + sumU (ts.drop (i + 1))) ≤ 1000000000000000 := hb
    have wr : IntKind.wrap .i64 (acc + t.units) = acc + t.units := wrapId (by omega) (by omega)
    have ev := lq16_5 (callω cfg) (loopω cfg) σ p acc v (ts.length : Nat) (i : Nat)
    simp only [ltN (show i < ts.length by omega), if_true, k1, ldTp, bind_some', stT σ [w, .bool t.trim, .int .i64 t.place] rfl (pl3' k2.plain _ _ _), ldT (push_obj σ (.cells 0 [[w, .bool t.trim, .int .i64 t.place]])) rfl, cEUnits (c2 := cfg) rfl rfl k2, asInt_int, wr, wrap_succ (show i < 4611686018427387904 by omega)] at ev
    obtain ⟨τ, r1⟩ := lpPending h hl hu k (i + 1) _ (acc + t.units) (by omega) (by omega) (by omega)
    refine ⟨τ, loopω_ofK (ev.trans r1 |>.trans ?_)⟩
    show _ = some (Ex.exit 0, out16_5 p (acc + (t.units + sumU (ts.drop (i + 1)))), τ)
    rw [Int.add_assoc]
theorem cEPending {c2 : Cfg} (hm : c2.mode 16 = .pure) (hP : c2.P = Try.prog) (h : DevS g σ id d) (hl : d.ts.length ≤ 1000000) (hu : ∀ t ∈ d.ts, t.units ≤ 1000000000) :
    callE c2 (callω cfg) 16 [.ref id 0 0] σ = some (.tuple [.int .i64 (d.ws.length : Nat), .int .i64 (sumU d.ts)], σ) := by
  obtain ⟨p, s, q, t, w, m, e1, e2, e3, e4⟩ := fzDev h
  refine callE_pure hm (by rw [hP]; kernel_rfl) (by simp only [List.map_cons, List.map_nil]; rw [e1]) ?_ (.inl rfl)
  have ev := eq16 (callω cfg) (loopω cfg) .empty p d.seen.base s q d.kept.base t w m d.armed d.gone
  have hb2 : ∀ l, binv Try.prog .eql 24 (.pref l) .nilptr = some (.bool false) := by intro l; kernel_rfl
  have hs := sumU_le hu
  obtain ⟨τ, r1⟩ := lpPending (p := .pref [p, .int .i64 d.seen.base, s, q, .int .i64 d.kept.base, t, w, m, .int .i64 d.armed, .bool d.gone]) e4 hl hu d.ts.length 0 .empty 0 (by omega) (by omega) (by rw [List.drop_zero]; omega)
  rw [natz, List.drop_zero, Int.zero_add] at r1
  have nvp : ∀ l, nilv (.pref l) = some (.pref l) := fun _ => rfl
  simp only [hb2, bind_some', asBool_bool, Bool.false_eq_true, if_false, e4.len TT, asInt_int, r1, onEx_exit, if_true, out16_5_0, out16_5_4, nvp, faP6, ldtW, e3.len TW] at ev
  exact pureω_of (hT _) ev rfl

def clamp (n : Int) (k : Nat) : Nat := if n < 0 then 0 else if n > k then k else n.toNat
theorem crash_torn {x : Dk} {b : By} {n : Int} (ts : List Tn) (hts : ts = if 0 < b.length then [⟨b, false, 0⟩] else []) : (crashT x ts n).base = x.base ∧ (crashT x ts n).st = x.st ++ b.take (clamp n b.length) := by
  subst hts
  by_cases hb : 0 < b.length
  · rw [if_pos hb]
    unfold crashT
    have hu : Tn.units ⟨b, false, 0⟩ = ((b.length : Nat) : Int) := rfl
    rw [hu]
    unfold clamp
    by_cases c1 : ((b.length : Nat) : Int) > n
    · rw [if_pos c1]
      by_cases c2 : n > 0
      · rw [if_pos c2, if_neg (by omega), if_neg (by omega)]
        exact ⟨rfl, rfl⟩
      · rw [if_neg c2]
        by_cases c3 : n < 0
        · rw [if_pos c3, List.take_zero, List.append_nil]; exact ⟨rfl, rfl⟩
        · have : n.toNat = 0 := by omega
          rw [if_neg c3, if_neg (by omega), this, List.take_zero, List.append_nil]; exact ⟨rfl, rfl⟩
    · rw [if_neg c1]
      unfold crashT
      have hk : (if n < 0 then 0 else if n > ((b.length : Nat) : Int) then b.length else n.toNat) = b.length := by
        rw [if_neg (by omega)]
        split <;> omega
      rw [hk, List.take_length]
      exact ⟨rfl, rfl⟩
  · have : b = [] := List.eq_nil_of_length_eq_zero (by omega)
    subst this
    rw [if_neg (by simp)]
    unfold crashT
    simp

theorem spTorn (ha : IsS RB v a) (hb : IsS RB u b) (hal : a.length < 4611686018427387904) (hbl : b.length < 4611686018427387904) {n : Int} (hn : -9223372036854775808 ≤ n ∧ n ≤ 9223372036854775807) : ∃ τ, callω cfg 4 [v, u, .int .i64 n] .empty = some (.bool true, τ) := by
  have ev := eq4 (callω cfg) (loopω cfg) .empty v u n
  obtain ⟨g1, τ1, a1, a2, a3⟩ := spNew (P := 1) (by omega) (fun _ => 7) .empty
  have i0 := Inv.new (P := 1) (by omega)
  have c1 : callE cfg (callω cfg) 7 [.int .i64 1] .empty = some (.tuple [.ref (Store.empty.next + 2) 0 0, .int .i64 0], τ1) := by rw [callE_live rfl (by kernel_rfl)]; exact a1
  generalize Store.empty.next + 2 = id at a2 c1
  have n0 : ((0 : Int) != 0) = false := by decide
  have n1 : ((0 : Int) == 0) = true := by decide
  simp only [c1, bind_some', tupv_0, tupv_1, asInt_int, n0, Bool.false_eq_true, if_false, neNilL, asBool_bool, ha.len TB, hb.len TB] at ev
  by_cases ca : ((a.length : Nat) : Int) > 500
  · rw [if_pos (decide_eq_true ca)] at ev
    simp only [n1, if_true, neNilR, bind_some', asBool_bool, cEAwake (c2 := cfg) rfl rfl] at ev
    exact ⟨_, callω_ofK (hT _) ev⟩
  rw [if_neg (by simpa using ca)] at ev
  by_cases cb : ((b.length : Nat) : Int) > 500
  · rw [if_pos (decide_eq_true cb)] at ev
    simp only [n1, if_true, neNilR, bind_some', asBool_bool, cEAwake (c2 := cfg) rfl rfl] at ev
    exact ⟨_, callω_ofK (hT _) ev⟩
  rw [if_neg (by simpa using cb)] at ev
  -- the first bytes
  have hs0 : (Dv.new 1).seen.st.length = 0 := rfl
  obtain ⟨g2, τ2, b1, b2, b3⟩ := spAppend a2 (ha.q τ1 1) (fun i hi => by rw [ha.tops] at hi; cases hi) (fun i hi => by rw [ha.tops] at hi; cases hi) (P := 1) i0.hP i0.pl i0.st ⟨by decide, by decide⟩ i0.arm (by decide) hal
  rw [if_pos (by rw [hs0]; omega)] at b1
  rw [if_pos (by rw [hs0]; omega)] at b2
  have i1 := (i0.app (by decide) (b := a) (by rw [hs0]; omega))
  have e1 := app_calm (d := Dv.new 1) rfl rfl a
  have hA : (Dv.new 1).app a = { seen := { (Dk.new 1) with st := a }, kept := Dk.new 1, ws := [], ts := if 0 < a.length then [⟨a, false, 0⟩] else [], armed := -1, gone := false } := e1
  obtain ⟨g3, τ3, s1, s2, s3⟩ := spSync b2 (P := 1) (by omega) i1.kl i1.ws i1.ts (by rw [hA]; exact Nat.zero_le _) (by rw [hA]; show (if 0 < a.length then [Tn.mk a false 0] else []).length ≤ _; split <;> simp)
  have hS : ((Dv.new 1).app a).sync = { seen := { (Dk.new 1) with st := a }, kept := { (Dk.new 1) with st := a }, ws := [], ts := [], armed := -1, gone := false } := by
    have hsy := i1.sy (by rw [hA])
    unfold Dv.sync
    rw [hsy, hA]
    rfl
  have i2 := i1.sync
  rw [hS] at s2 i2
  have c2 : callE cfg (callω cfg) 15 [.ref id 0 0, v] τ1 = some (.int .i64 0, τ2) := by rw [callE_live rfl (by kernel_rfl)]; exact b1
  have c3 : callE cfg (callω cfg) 11 [.ref id 0 0] τ2 = some (.tuple [], τ3) := by rw [callE_live rfl (by kernel_rfl)]; exact s1
  obtain ⟨g4, τ4, t1, t2, t3⟩ := spAppend s2 (hb.q τ3 1) (fun i hi => by rw [hb.tops] at hi; cases hi) (fun i hi => by rw [hb.tops] at hi; cases hi) (P := 1) i2.hP i2.pl i2.st ⟨by show (0 : Int) ≤ 0; omega, by show (0 : Int) ≤ 1000000000; omega⟩ i2.arm (by show 0 ≤ _; omega) hbl
  have hla : b.length + a.length ≤ 65536 := by omega
  rw [if_pos (show b.length + a.length ≤ 65536 from hla)] at t1
  rw [if_pos (show b.length + a.length ≤ 65536 from hla)] at t2
  have i3 := i2.app (by omega) (b := b) (show b.length + a.length ≤ 65536 from hla)
  have e3 := app_calm (d := { seen := { (Dk.new 1) with st := a }, kept := { (Dk.new 1) with st := a }, ws := [], ts := [], armed := -1, gone := false }) rfl rfl b
  rw [e3] at t2 i3
  have c4 : callE cfg (callω cfg) 15 [.ref id 0 0, u] τ3 = some (.int .i64 0, τ4) := by rw [callE_live rfl (by kernel_rfl)]; exact t1
  have hts : (if 0 < b.length then ([] : List Tn) ++ [⟨b, false, 0⟩] else []) = if 0 < b.length then [⟨b, false, 0⟩] else [] := rfl
  have hsum : sumU (if 0 < b.length then ([] : List Tn) ++ [⟨b, false, 0⟩] else []) = ((b.length : Nat) : Int) := by
    by_cases h0 : 0 < b.length
    · rw [if_pos h0]; show ((b.length : Nat) : Int) + 0 = _; omega
    · rw [if_neg h0]; show (0 : Int) = _; omega
  have htl : (if 0 < b.length then ([] : List Tn) ++ [⟨b, false, 0⟩] else []).length ≤ 1000000 := by split <;> simp
  have c5 := cEPending (c2 := cfg) rfl rfl t2 htl (oks_units _ _ i3.ts)
  rw [hsum] at c5
  obtain ⟨g5, τ5, y1, y2, y3⟩ := spCrash t2 (pat := []) (v := .nilsl) (IsS.nil.q τ4 1) (fun j hj => by cases hj) (P := 1) i3.hP i3.kl i3.ws i3.ts (by show 0 ≤ _; omega) htl hn (i3.crashFit n)
  have c6 : callE cfg (callω cfg) 13 [.ref id 0 0, .nilsl, .int .i64 n] τ4 = some (.tuple [], τ5) := by rw [callE_live rfl (by kernel_rfl)]; exact y1
  have i4 := i3.crash [] n
  have htorn := crash_torn (x := { (Dk.new 1) with st := a }) (b := b) (n := n) (if 0 < b.length then ([] : List Tn) ++ [⟨b, false, 0⟩] else []) hts
  have hbase : (({ seen := Dk.turn { (Dk.new 1) with st := a } ⟨b, false, 0⟩, kept := { (Dk.new 1) with st := a }, ws := [], ts := if 0 < b.length then ([] : List Tn) ++ [⟨b, false, 0⟩] else [], armed := -1, gone := false } : Dv).crash [] n).seen.base = 0 := htorn.1
  have hst : (({ seen := Dk.turn { (Dk.new 1) with st := a } ⟨b, false, 0⟩, kept := { (Dk.new 1) with st := a }, ws := [], ts := if 0 < b.length then ([] : List Tn) ++ [⟨b, false, 0⟩] else [], armed := -1, gone := false } : Dv).crash [] n).seen.st = a ++ b.take (clamp n b.length) := htorn.2
  obtain ⟨g6, τ6, w, z1, z2, _, _, _⟩ := spStream y2 (by have := i4.st; omega)
  rw [hbase] at z1
  rw [hst] at z2
  have c7 : callE cfg (callω cfg) 17 [.ref id 0 0] τ5 = some (.tuple [.int .i64 0, w], τ6) := by rw [callE_live rfl (by kernel_rfl)]; exact z1
  have n2 : ((((b.length : Nat) : Int)) == ((b.length : Nat) : Int)) = true := by simp
  -- the last bytes that count
  have fin : ∀ K : Nat, K ≤ b.length → clamp n b.length = K → ∀ x : Option PV, (∃ w', cutv Try.prog 30 u none (some (.int .i64 ((K : Nat) : Int))) none = some w' ∧ convv Try.prog τ6 30 9 w' = some (.str (strB (b.take K)))) ∧ convv Try.prog τ6 30 9 w = some (.str (strB (a ++ b.take K))) ∧ binv Try.prog .add 9 (.str (strB a)) (.str (strB (b.take K))) = some (.str (strB (a ++ b.take K))) := fun K hK hcl x => by
    obtain ⟨w', k1, k2⟩ := hb.cut TB okB (lo := none) (hi := some (.int .i64 ((K : Nat) : Int))) rfl (numOf_nat .i64 _ _) (Nat.zero_le _) hK
    simp only [List.drop_zero, Nat.sub_zero] at k2
    refine ⟨⟨w', k1, k2.str uStr TB uB τ6⟩, ?_, strAdd _ (by rw [List.length_take]; omega)⟩
    rw [← hcl]
    exact z2.str uStr TB uB
  have hca : convv Try.prog τ6 30 9 v = some (.str (strB a)) := ha.str uStr TB uB τ6
  have heq : ∀ l : By, binv Try.prog .eql 9 (.str (strB l)) (.str (strB l)) = some (.bool true) := fun l => by rw [strEq]; simp
  simp only [c2, c3, c4, c5, c6, bind_some', asInt_int, tupv_0, tupv_1] at ev
  by_cases q1 : n < 0
  · rw [if_pos (decide_eq_true q1)] at ev
    rw [if_neg (by simp)] at ev
    obtain ⟨⟨w', k1, k2⟩, k3, k4⟩ := fin 0 (Nat.zero_le _) (by unfold clamp; rw [if_pos q1]) none
    rw [natz] at k1
    simp only [c7, bind_some', tupv_0, tupv_1, asInt_int, n2, if_true, n1, k3, asStr_str, hca, k1, k2, k4, heq, asBool_bool, cEAwake (c2 := cfgS) rfl rfl] at ev
    exact ⟨_, callω_ofK (hT _) ev⟩
  · rw [if_neg (by simpa using q1)] at ev
    by_cases q2 : n > ((b.length : Nat) : Int)
    · rw [if_pos (decide_eq_true q2)] at ev
      obtain ⟨⟨w', k1, k2⟩, k3, k4⟩ := fin b.length (Nat.le_refl _) (by unfold clamp; rw [if_neg q1, if_pos q2]) none
      simp only [c7, bind_some', tupv_0, tupv_1, asInt_int, n2, if_true, n1, k3, asStr_str, hca, k1, k2, k4, heq, asBool_bool, cEAwake (c2 := cfgS) rfl rfl] at ev
      exact ⟨_, callω_ofK (hT _) ev⟩
    · rw [if_neg (by simpa using q2)] at ev
      obtain ⟨⟨w', k1, k2⟩, k3, k4⟩ := fin n.toNat (by omega) (by unfold clamp; rw [if_neg q1, if_neg q2]) none
      rw [show ((n.toNat : Nat) : Int) = n by omega] at k1
      simp only [c7, bind_some', tupv_0, tupv_1, asInt_int, n2, if_true, n1, k3, asStr_str, hca, k1, k2, k4, heq, asBool_bool, cEAwake (c2 := cfgS) rfl rfl] at ev
      exact ⟨_, callω_ofK (hT _) ev⟩
end
end Go.Pvm.S
