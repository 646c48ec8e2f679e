/- Part of the proof: the document's device over values alone: parts, sizes, a disk behind a part, a part that is done. -/
import Derived.Test.YtgcfmhlgbakdfaaEqKAll
import Derived.Test.YtgcfmhlgbakdfaaDevQ
set_option linter.unusedSimpArgs false
set_option linter.unusedVariables false
set_option maxRecDepth 100000
namespace Go.Pvm.S
open Go.Pvm Go.Proofs
noncomputable abbrev Cω : CallK := callωK cfg kcfg
noncomputable abbrev Lω : LoopK := loopωK cfg kcfg
theorem lw {f : FuncId} {cd : Code} {n0 : Nat} {e : List PV} {A : List KO} {r : Ex × List PV × List KO} (h : stepLKK cfg kcfg Cω Lω f cd n0 e A = some r) : Lω f cd n0 e A = some r := loopωK_of h
theorem cw {f : FuncId} {e : List PV} {A : List KO} {r : PV × List KO} (h : stepKK cfg kcfg Cω Lω f e A = some r) : Cω f e A = some r := callωK_of h
theorem pc {f : FuncId} {a : List PV} {v w : PV} {A : List KO} (h : stepKK cfg kcfg Cω Lω f a [] = some (v, A)) (hf : fzK fuelFz A v = w) : pcall Cω f a = some w := pcall_of h hf
theorem numN (i d : Nat) : numOf (some (.int .i64 (i : Nat))) d = some i := by simp [numOf]
theorem mapGt {α : Type} {f : α → List PV} {l : List α} {i : Nat} {a : α} (h : l[i]? = some a) : (l.map f)[i]? = some (f a) := by rw [List.getElem?_map, h]; rfl
theorem bAll (l : By) : (List.all (l.map cB) fun e => List.length e == 1) = true := by simp [cB]
theorem bPl (l : By) : rowsPl 1 (l.map cB) = true := rowsPl_map l fun a => ⟨rfl, rfl⟩
def bv (l : By) : PV := .psl false (l.map cB)
def Pt.e (u : Pt) : List PV := [.int .i64 u.at_, bv u.b, .bool u.trim, .int .i64 u.to]
def Dk.e (x : Dk) : List PV := [bv x.pg, .int .i64 x.base, bv x.st]
def Rf.e (r : Rf) : List PV := [bv r.kept.pg, .int .i64 r.kept.base, bv r.kept.st, bv r.now.pg, .int .i64 r.now.base, bv r.now.st, .psl false (r.done.map Pt.e), .bool r.gone, .int .i64 r.armed]
theorem pPl (l : List Pt) : rowsPl 4 (l.map Pt.e) = true := rowsPl_map l fun a => ⟨rfl, rfl⟩
theorem spSize (p : Pt) : pcall Cω 38 [.agg p.e] = some (.int .i64 p.size) := by
  have ev := eqK38 Cω Lω p.at_ (p.b.map cB) p.trim p.to
  rw [List.length_map] at ev
  unfold Pt.size
  by_cases h : p.at_ < 0
  · rw [if_pos (decide_eq_true h)] at ev
    cases ht : p.trim with
    | true =>
      rw [ht] at ev
      rw [if_neg (by rintro ⟨_, e⟩; cases e)]
      exact pc (by rw [Pt.e, ht]; exact ev) rfl
    | false =>
      rw [ht] at ev
      rw [if_pos ⟨h, rfl⟩]
      exact pc (by rw [Pt.e, ht]; exact ev) rfl
  · rw [if_neg (by simpa using h)] at ev
    rw [if_neg (by rintro ⟨e, _⟩; exact h e)]
    exact pc ev rfl
theorem spFirst (p : Pt) (n : Int) : pcall Cω 37 [.agg p.e, .int .i64 n] = some (.tuple [.agg (p.first n).1.e, .bool (p.first n).2]) := by
  have ev := eqK37 Cω Lω p.at_ (p.b.map cB) p.trim p.to n
  have hs := spSize p
  unfold Pt.e bv at hs
  rw [hs] at ev
  simp only [asInt_int, asBool_bool, asStr_str, asSl_psl, asSl_nil, asAgg_agg, asTup_tup, asCons_cons, asNil_nil, asFlt_flt, asRef_ref, asWhole_whole, asView_view, asWv_whole, asWv_view, asFn_fn, asPref_pref, asOCons_cons, asONil_nil, asBox_box, asMade_made, asGone_dead, asGone_made, asCI_cons, asCB_cons, asCF_cons, asCS_psl, asCS_nil, asCW_cons, asCR_cons, asOM_cons, asOM_false, asOB_cons, asOB_false, asOG_dead, asOG_made, gS_mk, bind_some', onEx_exit, onEx_ret] at ev
  unfold Pt.first
  by_cases c1 : n ≥ p.size
  · rw [if_pos (decide_eq_true c1)] at ev
    rw [if_pos c1]
    exact pc ev rfl
  rw [if_neg (by simpa using c1)] at ev
  rw [if_neg c1]
  by_cases c2 : n ≤ 0
  · rw [if_pos (decide_eq_true c2)] at ev
    rw [if_pos (.inl c2)]
    exact pc ev rfl
  rw [if_neg (by simpa using c2)] at ev
  by_cases c3 : p.at_ ≥ 0
  · rw [if_pos (decide_eq_true c3)] at ev
    rw [if_pos (.inr (.inl c3))]
    exact pc ev rfl
  rw [if_neg (by simpa using c3)] at ev
  by_cases c4 : p.trim = true
  · rw [if_pos c4] at ev
    rw [if_pos (.inr (.inr c4))]
    exact pc ev rfl
  rw [if_neg c4] at ev
  rw [if_neg (by rintro (e | e | e)
                 · exact c2 e
                 · exact c3 e
                 · exact c4 e)]
  have hsz : p.size = (p.b.length : Nat) := by unfold Pt.size; rw [if_pos ⟨by omega, by simpa using c4⟩]
  have hn : n = ((n.toNat : Nat) : Int) := by omega
  have hk : numOf (some (.int .i64 n)) (List.length (p.b.map cB)) = some n.toNat := by rw [hn]; exact numN _ _
  rw [hk, bind_some', if_pos (bAll _), if_pos ⟨Nat.zero_le _, by rw [List.length_map]; omega⟩, List.drop_zero, Nat.sub_zero, ← List.map_take] at ev
  exact pc ev rfl
/-- What a part asks of a disk. -/
def Fit (x : Dk) (p : Pt) : Prop := (0 ≤ p.at_ → 128 * p.at_.toNat + 128 ≤ x.pg.length ∧ p.at_ ≤ 1000000 ∧ x.pg.length ≤ 1000000000 ∧ p.b.length ≤ 1000000000) ∧
  (p.at_ < 0 → p.trim = true → x.base ≤ p.to ∧ p.to ≤ x.base + x.st.length ∧ x.st.length ≤ 1000000000) ∧
  (p.at_ < 0 → p.trim = false → x.st.length ≤ 1000000000 ∧ p.b.length ≤ 1000000000)
theorem spRTurn {x : Dk} {p : Pt} (h : Fit x p) : pcall Cω 36 [.agg x.e, .agg p.e] = some (.agg (x.part p).e) := by
  have ev := eqK36 Cω Lω (x.pg.map cB) x.base (x.st.map cB) p.at_ (p.b.map cB) p.trim p.to
  unfold Dk.part
  by_cases c : 0 ≤ p.at_
  · obtain ⟨h1, h2, h3, h4⟩ := h.1 c
    have hm : p.at_ = ((p.at_.toNat : Nat) : Int) := by omega
    rw [if_pos c]
    rw [if_pos (decide_eq_true (show p.at_ ≥ 0 from c))] at ev
    have w1 : IntKind.wrap .i64 (128 * p.at_) = ((128 * p.at_.toNat : Nat) : Int) := by rw [wrap_i64 (by omega) (by omega)]; omega
    have w2 : IntKind.wrap .i64 (((128 * p.at_.toNat : Nat) : Int) + 128) = ((128 * p.at_.toNat + 128 : Nat) : Int) := by rw [wrap_i64 (by omega) (by omega)]; omega
    simp only [w1, w2, numN, bind_some', bAll, if_true, List.length_map, List.drop_zero, Nat.sub_zero, List.nil_append, List.length_nil, Nat.zero_add, Nat.mul_one] at ev
    have ht : List.take (x.pg.length - (128 * p.at_.toNat + 128)) (List.drop (128 * p.at_.toNat + 128) (x.pg.map cB)) = (x.pg.drop (128 * p.at_.toNat + 128)).map cB := by
      rw [List.take_of_length_le (by simp), List.map_drop]
    rw [ht, ← List.map_take, bPl, bPl, bPl] at ev
    rw [if_pos ⟨Nat.zero_le _, by omega⟩, if_neg (by decide), if_pos (by rw [List.length_map, List.length_take]; omega), if_neg (by decide), if_pos (by rw [List.length_map, List.length_take]; omega), if_pos ⟨by omega, Nat.le_refl _⟩, if_neg (by decide), if_pos (by rw [← List.map_append, List.length_map, List.length_map, List.length_append, List.length_take, List.length_drop]; omega), ← List.map_append, ← List.map_append] at ev
    exact pc ev rfl
  · rw [if_neg c]
    rw [if_neg (by simpa using c)] at ev
    unfold Dk.turn
    cases ht : p.trim with
    | true =>
      obtain ⟨h1, h2, h3⟩ := h.2.1 (by omega) ht
      rw [ht] at ev
      have w1 : IntKind.wrap .i64 (p.to - x.base) = (((p.to - x.base).toNat : Nat) : Int) := by rw [wrap_i64 (by omega) (by omega)]; omega
      rw [if_pos rfl, w1, numN, bind_some', if_pos (bAll _), List.length_map, if_pos ⟨by omega, Nat.le_refl _⟩, List.take_of_length_le (by simp), ← List.map_drop] at ev
      rw [Pt.e, ht]
      exact pc ev rfl
    | false =>
      obtain ⟨h1, h2⟩ := h.2.2 (by omega) ht
      rw [ht] at ev
      rw [if_neg (by decide), bPl, bPl, if_neg (by decide), List.nil_append, List.length_map, List.length_nil, if_pos (by omega), if_neg (by decide), List.length_map, if_pos (by omega), ← List.map_append] at ev
      rw [Pt.e, ht]
      exact pc ev rfl
end Go.Pvm.S
