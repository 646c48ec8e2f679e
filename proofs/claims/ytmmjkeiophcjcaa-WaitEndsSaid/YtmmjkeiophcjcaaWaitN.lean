/- Part of the proof: waits that end: 'Drop', 'For', 'On'. -/
import Derived.Test.YtmmjkeiophcjcaaWaitM
set_option linter.unusedSimpArgs false
set_option linter.unusedVariables false
set_option maxRecDepth 100000
namespace Go.Pvm.Wait
open Go.Pvm Go.Proofs
/-! Clone. -/
section
variable {v : PV} {es : List (List PV)} {σ : Store}
theorem cloneW_sp (h : IsQ σ 2 v es) (hE : Els 2 es) (hl : es.length * 16 ≤ 140737488355328) : ∃ u τ, callω cfg 18 [v] σ = some (u, τ) ∧ Mod σ τ [] ∧ ((u = .nilsl ∧ es = []) ∨ ∃ id cap, u = .lsl id 2 0 es.length cap ∧ σ.next ≤ id ∧ id < τ.next ∧ τ.objs id = some (.cells 0 es) ∧ (cap = none ∨ cap = some es.length)) := by
  have hu : Try.prog.underlying 22 = some (.slice 38) := by kernel_rfl
  have E : El Try.prog 38 2 16 := ⟨by kernel_rfl, by kernel_rfl, ⟨.agg [.int .i64 0, .int .i64 0], by kernel_rfl, rfl, rfl⟩, by decide, by decide⟩
  have ev := eq18 (callω cfg) (loopω cfg) σ v
  have hb : binv Try.prog .eql 22 .nilsl .nilsl = some (.bool true) := by kernel_rfl
  have hb2 : ∀ b es, binv Try.prog .eql 22 (.psl b es) .nilsl = some (.bool false) := by intro b es; kernel_rfl
  have hb3 : ∀ a b c d e, binv Try.prog .eql 22 (.lsl a b c d e) .nilsl = some (.bool false) := by intro a b c d e; kernel_rfl
  have hbs : ∀ σ, buildSlv Try.prog σ 22 0 [] = some (.lsl σ.next 2 0 0 (some 0), σ.push (.cells 0 [])) := by intro σ; kernel_rfl
  have main : v ≠ .nilsl → IsQ (σ.push (.cells 0 [])) 2 v es → binv Try.prog .eql 22 v .nilsl = some (.bool false) → ∃ u τ, callω cfg 18 [v] σ = some (u, τ) ∧ Mod σ τ [] ∧ ((u = .nilsl ∧ es = []) ∨ ∃ id cap, u = .lsl id 2 0 es.length cap ∧ σ.next ≤ id ∧ id < τ.next ∧ τ.objs id = some (.cells 0 es) ∧ (cap = none ∨ cap = some es.length)) := fun _ hq hbv => by
    simp only [hbv, bind_some', asBool_bool, Bool.false_eq_true, if_false, hbs, writeB_append hu hu hq.nostr] at ev
    by_cases hn : es = []
    · subst hn
      rw [appendv_none E hq.elems] at ev
      exact ⟨_, _, callω_ofK hT ev, Mod.push _ _ _, .inr ⟨_, some 0, rfl, Nat.le_refl _, Nat.lt_succ_self _, push_obj _ _, .inr rfl⟩⟩
    · rw [appendv_full E hq.elems hE.all1 hn (push_obj _ _) (Nat.le_refl _) (by rw [Nat.zero_add]; exact hl)] at ev
      refine ⟨_, _, callω_ofK hT ev, (Mod.push σ _ []).trans' (Mod.push _ _ []) (fun i hi => .inl hi), .inr ⟨_, none, ?_, ?_, Nat.lt_succ_self _, ?_, .inl rfl⟩⟩
      · simp
      · exact Nat.le_succ _
      · rw [push_obj]; simp
  rcases h with (⟨rfl, rfl⟩ | ⟨b, rfl⟩) | ⟨id, idx, cap, ro, full, rfl, h2, h3, h4⟩
  · simp only [hb, bind_some', asBool_bool, if_true] at ev
    exact ⟨_, _, callω_ofK hT ev, Mod.refl _ _, .inl ⟨rfl, rfl⟩⟩
  · exact main (by simp) (.inl (.inr ⟨b, rfl⟩)) (hb2 _ _)
  · exact main (by simp) (IsQ.push (.inr ⟨id, idx, cap, ro, full, rfl, h2, h3, h4⟩) _) (hb3 _ _ _ _ _)
end

theorem elsW (l : List W) : Els 2 (l.map cW) := Els.map (enc := cW) (fun a => ⟨rfl, by simp [cW, PV.plain]⟩) l
theorem en14 : enters Try.prog 14 = true := by kernel_rfl
theorem en15 : enters Try.prog 15 = true := by kernel_rfl
theorem en16 : enters Try.prog 16 = true := by kernel_rfl
theorem en25 : enters Try.prog 25 = true := by kernel_rfl

theorem sp26 (w : W) (n : Int) : pureω cfg 26 [.agg (cW w), .pref [.int .i64 n]] = some (.bool (w.1 == n)) := by
  refine pureω_of hT (v := .bool (w.1 == n)) (τ := Store.push .empty (.cells 0 [cW w])) ((eq26 _ _ _ _ _ _).trans ?_) rfl
  have h2 : ∀ a b : PV, partOf Try.prog 3 [a, b] (0 + 0) = some a := by intro a b; kernel_rfl
  show (loadv Try.prog (Store.push Store.empty (.cells 0 [cW w])) 3 (.ref Store.empty.next 0 (0 + 0))).bind _ = _
  rw [ldPush, show partOf Try.prog 3 (cW w) (0 + 0) = some (.int .i64 w.1) from h2 _ _]
  simp only [bind_some', asInt_int, ld3]
  rfl

def dropW (l : List W) (n : Int) : List W := l.filter fun w => !(w.1 == n)
section
variable {v : PV} {l : List W} {σ : Store}
theorem IsW.p (h : IsW v l) : IsP v (l.map cW) := by
  rcases h with ⟨rfl, rfl⟩ | ⟨b, rfl⟩
  · exact .inl ⟨rfl, rfl⟩
  · exact .inr ⟨b, rfl⟩
theorem IsW.ofP (h : IsP v (l.map cW)) : IsW v l := by
  rcases h with ⟨rfl, h⟩ | ⟨b, rfl⟩
  · exact .inl ⟨rfl, by simpa using h⟩
  · exact .inr ⟨b, rfl⟩
def fstV (n : Int) (e : List PV) : Bool := match e with | .int _ m :: _ => m == n | _ => false
theorem filter_cW (n : Int) : ∀ l : List W, (l.map cW).filter (fun e => !fstV n e) = (dropW l n).map cW
  | [] => rfl
  | w :: l => by
    rw [List.map_cons, List.filter_cons, filter_cW n l]
    unfold dropW
    rw [List.filter_cons]
    have : fstV n (cW w) = (w.1 == n) := rfl
    rw [this]
    cases w.1 == n <;> rfl

theorem sp14 (h : IsW v l) (n : Int) (hl : l.length ≤ 1000000) : ∃ v', pureω cfg 14 [v, .int .i64 n] = some v' ∧ IsW v' (dropW l n) := by
  have ev := eq14 (callω cfg) (loopω cfg) .empty v n
  let σ0 : Store := Store.push .empty (.cells 0 [[.int .i64 n]])
  obtain ⟨u, τ, h1, h2, h3⟩ := cloneW_sp (σ := σ0) h.p.q (elsW l) (by simp; omega)
  have hc : callE cfg (callω cfg) 18 [v] (Store.push .empty (.cells 0 [[.int .i64 n]])) = some (u, τ) := by rw [callE_live rfl en18]; exact h1
  have hn0 : σ0.next = 1 := rfl
  have hcap : τ.objs 0 = some (.cells 0 [[.int .i64 n]]) := (h2.2 0 (by rw [hn0]; omega) (by simp)).trans (push_obj _ _)
  simp only [hc, bind_some'] at ev
  rw [callE_live rfl en25] at ev
  have hne : Store.empty.next = 0 := rfl
  rcases h3 with ⟨rfl, hes⟩ | ⟨id, cap, rfl, hid1, hid2, ho, hcp⟩
  · have hl0 : l = [] := by simpa using hes
    subst hl0
    have ev2 := eq25 (callω cfg) (loopω cfg) τ .nilsl (.func 26 [.ref 0 0 0])
    have hip : IsP .nilsl [] := .inl ⟨rfl, rfl⟩
    have hidx := callE_pure (cfg := cfg) (c2 := cfg) (f := 27) (σ := τ) (args := [.nilsl, .func 26 [.ref 0 0 0]]) (args' := [.nilsl, .func 26 [.pref [.int .i64 n]]]) rfl en27 (by
      have := fz_ref hcap (by simp [PV.plain]) 5
      show [fz 8 τ .nilsl, PV.func 26 [fz 7 τ (.ref 0 0 0)]] = _
      rw [this]; rfl) (ixW_sp hip (fun _ h => by cases h) (p := fun _ => true) (fun _ h => by cases h) (by simp)) (.inl rfl)
    simp only [hidx, bind_some', asInt_int] at ev2
    have e1 : (Pvm.idxI (([] : List (List PV)).findIdx? fun _ => true) == (-1)) = true := rfl
    simp only [e1, if_true] at ev2
    rw [hne, callω_ofK hT ev2] at ev
    exact ⟨_, pureω_of hT ev rfl, .inl ⟨rfl, rfl⟩⟩
  · let Inv : Store → Prop := fun τ' => τ'.objs 0 = some (.cells 0 [[.int .i64 n]]) ∧ id < τ'.next
    have hid0 : id ≠ 0 := by rw [hn0] at hid1; omega
    have K : delW_Cl id 26 [.ref 0 0 0] [.pref [.int .i64 n]] (fstV n) (l.map cW) Inv := {
      m := rfl, e := en26
      pure := fun e he => by
        obtain ⟨w, _, rfl⟩ := List.mem_map.1 he
        exact sp26 w n
      fz := fun τ' m hi => by
        rw [List.map_cons, List.map_nil, fz_ref hi.1 (by simp [PV.plain]) (m + 1)]
      lf := rfl
      fz' := fun _ _ => rfl
      keep := fun τ1 τ2 hi m => ⟨(m.2 0 (by have := hi.2; omega) (by simpa using fun e => hid0 e.symm)).trans hi.1, Nat.lt_of_lt_of_le hi.2 m.1⟩
      bnd := fun _ hi => hi.2 }
    obtain ⟨τ', full', q1, q2, q3, q4, q5, q6, q7⟩ := delW_sp K (elsW l) (cap := cap) (σ := τ) (full := l.map cW) (by simp; omega) ⟨hcap, hid2⟩ ho (elsW l) (Nat.le_refl _) (List.take_length) (fun c hc => by rcases hcp with rfl | rfl <;> simp at hc ⊢; omega)
    rw [hne, q1] at ev
    rw [filter_cW] at ev q6
    refine ⟨fz 8 τ' (.lsl id 2 0 ((dropW l n).map cW).length cap), pureω_of hT ev rfl, IsW.ofP ?_⟩
    refine IsQ.frz (σ := τ') (sz := 2) (.inr ⟨id, 0, cap, 0, full', rfl, q3, ?_, by simpa using q6, q2.2⟩) (elsW _).plain 6
    rw [q4, Nat.zero_add, List.length_map, List.length_map]
    exact List.length_filter_le _ _
theorem sp15 (h : IsW v l) (n : Int) (hl : l.length < 4611686018427387904) : pureω cfg 15 [v, .int .i64 n] = some (.int .i64 ((nx l n).getD 0)) := by
  refine pureω_of hT (v := .int .i64 ((nx l n).getD 0)) (τ := .empty) ((eq15 _ _ _ _ _).trans ?_) rfl
  simp only [cE19 (c2 := cfg) rfl rfl h n hl, bind_some', asInt_int]
  rw [nx_at]
  cases hat : at_ l n with
  | none => rfl
  | some j =>
    have hw := List.getElem?_eq_getElem (at_lt hat)
    have hge : decide (((j : Nat) : Int) ≥ 0) = true := by simp
    simp only [idxI, hge, if_true, h.idx hw, fa1, ld3, bind_some', asInt_int]
    have : l.getD j (0, 0) = l[j]'(at_lt hat) := by rw [List.getD_eq_getElem?_getD, hw]; rfl
    rw [Option.map_some, Option.getD_some, this]
    exact if_pos hge
theorem cE15 (h : IsW v l) (n : Int) (hl : l.length < 4611686018427387904) (σ : Store) : callE cfg (callω cfg) 15 [v, .int .i64 n] σ = some (.int .i64 ((nx l n).getD 0), σ) :=
  callE_pure rfl en15 (by simp only [List.map_cons, List.map_nil, h.frz, frz_int]) (sp15 h n hl) (.inl rfl)

def onW (l : List W) (n : Int) : List Int := (l.filter fun w => w.2 == n).map (·.1)
def cI (n : Int) : List PV := [.int .i64 n]
theorem elsI (l : List Int) : Els 1 (l.map cI) := Els.map (enc := cI) (fun a => ⟨rfl, by simp [cI, PV.plain]⟩) l
theorem E3 : El Try.prog 3 1 8 := ⟨by kernel_rfl, by kernel_rfl, ⟨.int .i64 0, by kernel_rfl, rfl, rfl⟩, by decide, by decide⟩
theorem u39 : Try.prog.underlying 39 = some (.slice 3) := by kernel_rfl
theorem lp16 (h : IsW v l) (n : Int) (hl : l.length ≤ 1000000) : ∀ (k i : Nat) (σ : Store) (u : PV) (acc : List Int), i + k = l.length → acc.length ≤ i → Ap σ 1 u (acc.map cI) →
    ∃ u' τ, loopω cfg 16 lc16_3 (st16_3 n u v (l.length : Nat) (i : Nat)) σ = some (.exit 0, out16_3 u', τ) ∧ Ap τ 1 u' ((acc ++ onW (l.drop i) n).map cI)
  | 0, i, σ, u, acc, hi, ha, hu => by
    refine ⟨u, σ, loopω_ofK ((lq16_3 _ _ _ _ _ _ _ _).trans ?_), ?_⟩
    · simp only [nltN (show l.length ≤ i by omega), Bool.false_eq_true, if_false]
    · rw [List.drop_eq_nil_of_le (by omega)]
      simpa [onW] using hu
  | k + 1, i, σ, u, acc, hi, ha, hu => by
    have hw := List.getElem?_eq_getElem (show i < l.length by omega)
    have hd : l.drop i = l[i]'(by omega) :: l.drop (i + 1) := (List.drop_eq_getElem_cons (by omega))
    generalize hwe : l[i]'(by omega) = w at hw hd
    have ev := lq16_3 (callω cfg) (loopω cfg) σ n u v (l.length : Nat) (i : Nat)
    have h2 : ∀ a b : PV, partOf Try.prog 3 [a, b] (0 + 1) = some b := by intro a b; kernel_rfl
    have h3 : ∀ a b : PV, partOf Try.prog 3 [a, b] (0 + 0) = some a := by intro a b; kernel_rfl
    have h2' : partOf Try.prog 3 (cW w) (0 + 1) = some (.int .i64 w.2) := h2 _ _
    have h3' : partOf Try.prog 3 (cW w) (0 + 0) = some (.int .i64 w.1) := h3 _ _
    have hst : storev Try.prog (σ.push (.cells 0 [[.int .i64 0, .int .i64 0]])) 38 (.ref σ.next 0 0) (.agg (cW w)) = some (σ.push (.cells 0 [cW w])) := Pvm.stNew (n := 2) (by kernel_rfl) rfl rfl rfl
    simp only [ltN (show i < l.length by omega), if_true, h.idx hw, ld38, hst, ldPush, h2', h3', bind_some', asInt_int, wrap_succ (show i < 4611686018427387904 by omega)] at ev
    rw [hd]
    unfold onW
    rw [List.filter_cons]
    by_cases hb : w.2 = n
    · have hb' : (w.2 == n) = true := by simpa using hb
      have hbs : ∀ σ (x : PV), buildSlv Try.prog σ 39 1 [(0, x)] = buildSlv Try.prog σ 39 1 [(0, x)] := fun _ _ => rfl
      have hbi : ∀ σ, buildSlv Try.prog σ 39 1 [(0, .int .i64 w.1)] = some (.lsl σ.next 1 0 1 (some 1), σ.push (.cells 0 [cI w.1])) := by intro σ; kernel_rfl
      obtain ⟨u', τ, q1, q2, q3, q4⟩ := (hu.push (.cells 0 [cW w])).app1 E3 u39 (elsI acc).len (new := [cI w.1]) rfl (by simp; omega)
      have q1' : writeB Try.prog ((σ.push (.cells 0 [cW w])).push (.cells 0 [cI w.1])) .append [39, 39] [u, .lsl (σ.push (.cells 0 [cW w])).next 1 0 1 (some 1)] = some (u', τ) := q1
      simp only [hb', if_true, hbi, bind_some', q1'] at ev
      have q2' : Ap τ 1 u' ((acc ++ [w.1]).map cI) := by simpa using q2
      obtain ⟨u2, τ2, e1, e2⟩ := lp16 h n hl k (i + 1) τ u' (acc ++ [w.1]) (by omega) (by simp; omega) q2'
      refine ⟨u2, τ2, loopω_ofK (ev.trans e1), ?_⟩
      rw [hb', if_pos rfl]
      simpa [onW] using e2
    · have hb' : (w.2 == n) = false := by simpa using hb
      simp only [hb', Bool.false_eq_true, if_false] at ev
      obtain ⟨u2, τ2, e1, e2⟩ := lp16 h n hl k (i + 1) _ u acc (by omega) (by omega) (hu.push (.cells 0 [cW w]))
      refine ⟨u2, τ2, loopω_ofK (ev.trans e1), ?_⟩
      rw [hb', if_neg (by simp)]
      simpa [onW] using e2
theorem sp16 (h : IsW v l) (n : Int) (hl : l.length ≤ 1000000) : ∃ v', pureω cfg 16 [v, .int .i64 n] = some v' ∧ IsP v' ((onW l n).map cI) := by
  have ev := eq16 (callω cfg) (loopω cfg) .empty v n
  obtain ⟨u, τ, e1, e2⟩ := lp16 h n hl l.length 0 .empty .nilsl [] (by omega) (by simp) (Ap.nil _ _)
  rw [natz] at e1
  simp only [h.len, bind_some', asInt_int, e1, onEx_exit, if_true, out16_3_5] at ev
  refine ⟨_, pureω_of hT ev rfl, ?_⟩
  have := e2.q.frz (elsI _).plain 6
  rw [List.nil_append, List.drop_zero] at this
  exact this
end
end Go.Pvm.Wait
