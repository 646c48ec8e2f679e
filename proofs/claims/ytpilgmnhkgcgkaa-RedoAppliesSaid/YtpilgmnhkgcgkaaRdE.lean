/- Part of the proof: slices one behind the other (slices.Concat). -/
import Derived.Test.YtpilgmnhkgcgkaaRdD
import Derived.Test.YtpilgmnhkgcgkaaEqKAll
set_option linter.unusedSimpArgs false
set_option linter.unusedVariables false
set_option maxRecDepth 100000
namespace Go.Pvm.S
open Go.Pvm Go.Proofs
abbrev Rw2 := List (List PV)
/-- Slices of a slice. -/
def RO : ElR Rw2 := fun e l => ∃ u, e = [u] ∧ IsP u l ∧ Els 2 l
theorem okO : ROk 1 RO := ⟨fun e l h => by obtain ⟨u, rfl, _⟩ := h; rfl, fun e l h c hc => by obtain ⟨u, rfl, hu, _⟩ := h; rw [List.mem_singleton.1 hc]; exact hu.plain⟩
theorem TO : SlT Try.prog 45 25 1 24 := ⟨by kernel_rfl, by kernel_rfl, by kernel_rfl, ⟨.nilsl, by kernel_rfl, rfl, rfl⟩, by decide, by decide⟩
theorem ldtI (σ : Store) (c : PV) (r : List PV) : loadv Try.prog σ 25 (.pref (c :: r)) = some c := by kernel_rfl
theorem uI : Try.prog.underlying 25 = some (.slice 28) := by kernel_rfl
theorem ElI : El Try.prog 28 2 32 := TI.el
def tot : List Rw2 → Nat
  | [] => 0
  | l :: r => l.length + tot r
theorem tot_flat : ∀ L : List Rw2, L.flatten.length = tot L
  | [] => rfl
  | l :: r => by rw [List.flatten_cons, List.length_append, tot_flat r]; rfl
theorem lpSize {q : PV} {L : List Rw2} (hq : IsS RO q L) (hL : L.length < 1073741824) : ∀ (k i a : Nat), i + k = L.length → a + tot (L.drop i) < 1073741824 →
    loopω cfg 28 lc28_3 (st28_3 q (a : Nat) q (L.length : Nat) (i : Nat)) .empty = some (.exit 0, out28_3 q ((a + tot (L.drop i) : Nat) : Int), .empty)
  | 0, i, a, hi, ha => by
    refine loopω_ofK ((lq28_3 _ _ _ _ _ _ _ _).trans ?_)
    rw [if_neg (by rw [decide_eq_true_eq]; omega), List.drop_of_length_le (by omega)]
    rfl
  | k + 1, i, a, hi, ha => by
    have hl : i < L.length := by omega
    have hg := List.getElem?_eq_getElem hl
    obtain ⟨e, i1, u, rfl, hu, _⟩ := hq.idx TO okO hg .i64
    have ln := hu.q (σ := .empty) (sz := 2) |>.len uI
    have ev := lq28_3 (callω cfg) (loopω cfg) .empty q (a : Nat) q (L.length : Nat) (i : Nat)
    rw [List.drop_eq_getElem_cons hl] at ha ⊢
    simp only [tot] at ha ⊢
    rw [if_pos (by rw [decide_eq_true_eq]; omega)] at ev
    have hw : IntKind.wrap .i64 (((a : Nat) : Int) + ((L[i].length : Nat) : Int)) = ((a + L[i].length : Nat) : Int) := by rw [wrap_i64 (by omega) (by omega)]; omega
    have hn : decide (((a + L[i].length : Nat) : Int) < 0) = false := decide_eq_false (by omega)
    simp only [i1, bind_some', ldtI, ln, asInt_int, hw, hn, Bool.false_eq_true, if_false, wrap_succ (show i < 4611686018427387904 by omega)] at ev
    have ih := lpSize hq hL k (i + 1) (a + L[i].length) (by omega) (by omega)
    rw [show a + (L[i].length + tot (L.drop (i + 1))) = a + L[i].length + tot (L.drop (i + 1)) by omega]
    exact loopω_ofK (ev.trans ih)
theorem spGrow {n : Nat} (h0 : 0 < n) (hn : n < 1073741824) (σ : Store) : callω cfg 33 [.nilsl, .int .i64 (n : Nat)] σ = some (.lsl σ.next 2 0 0 none, σ.push (.cells 0 (List.replicate n [.int .i64 0, .nilsl]))) := by
  have ev := eq33 (callω cfg) (loopω cfg) σ .nilsl (n : Nat)
  have c1 : decide (((n : Nat) : Int) < 0) = false := decide_eq_false (by omega)
  have c2 : pureB Try.prog .cap [25] [.nilsl] = some (.int .i64 0) := by kernel_rfl
  have c3 : pureB Try.prog .len [25] [.nilsl] = some (.int .i64 0) := by kernel_rfl
  have w1 : IntKind.wrap .i64 ((0 : Int) - 0) = 0 := by decide
  have w2 : IntKind.wrap .i64 (((n : Nat) : Int) - 0) = (n : Nat) := by rw [Int.sub_zero, wrap_i64 (by omega) (by omega)]
  have c4 : cutv Try.prog 25 .nilsl none (some (.int .i64 0)) none = some .nilsl := by kernel_rfl
  have c5 : writeB Try.prog σ .append [25, 3] [.nilsl, .int .i64 (n : Nat)] = some (.lsl σ.next 2 0 n none, σ.push (.cells 0 (List.replicate n [.int .i64 0, .nilsl]))) := by
    have e : writeB Try.prog σ .append [25, 3] [.nilsl, .int .i64 (n : Nat)] = if 0 < ((n : Nat) : Int) ∧ ((n : Nat) : Int).toNat * 32 ≤ 140737488355328 then some (.lsl σ.next 2 0 ((n : Nat) : Int).toNat none, σ.push (.cells 0 (List.replicate ((n : Nat) : Int).toNat [.int .i64 0, .nilsl]))) else none := by kernel_rfl
    rw [e, Int.toNat_natCast, if_pos ⟨by omega, by omega⟩]
  have c6 : cutv Try.prog 25 (.lsl σ.next 2 0 n none) none (some (.int .i64 0)) none = some (.lsl σ.next 2 0 0 none) := by
    have e : cutv Try.prog 25 (.lsl σ.next 2 0 n none) none (some (.int .i64 0)) none = if 0 ≤ 0 ∧ 0 ≤ n ∧ n ≤ n then some (.lsl σ.next 2 (0 + 0) (0 - 0) none) else none := by kernel_rfl
    rw [e, if_pos ⟨by omega, by omega, by omega⟩]
  have c7 : decide (((n : Nat) : Int) > 0) = true := decide_eq_true (by omega)
  simp only [c1, Bool.false_eq_true, if_false, c2, c3, bind_some', asInt_int, w1, w2, c7, if_true, c4, c5, c6] at ev
  exact callω_ofK (hT _) ev
theorem lpApp {q : PV} {L : List Rw2} (hq : IsS RO q L) (hL : L.length < 1073741824) {id n : Nat} (hn : n < 1073741824) : ∀ (k i : Nat) (σ : Store) (acc : Rw2), i + k = L.length → acc.length + tot (L.drop i) = n → σ.objs id = some (.cells 0 (acc ++ List.replicate (n - acc.length) [.int .i64 0, .nilsl])) →
    ∃ τ, loopω cfg 28 lc28_11 (st28_11 (.lsl id 2 0 acc.length none) q (L.length : Nat) (i : Nat)) σ = some (.exit 2, out28_11 (.lsl id 2 0 n none), τ) ∧ τ.objs id = some (.cells 0 (acc ++ (L.drop i).flatten)) ∧ τ.next = σ.next
  | 0, i, σ, acc, hi, ha, ho => by
    have hd : L.drop i = [] := List.drop_of_length_le (by omega)
    rw [hd] at ha ⊢
    simp only [tot, Nat.add_zero] at ha
    subst ha
    refine ⟨σ, loopω_ofK ((lq28_11 _ _ _ _ _ _ _).trans ?_), ?_, rfl⟩
    · rw [if_neg (by rw [decide_eq_true_eq]; omega)]
    · rw [ho, Nat.sub_self]
      simp
  | k + 1, i, σ, acc, hi, ha, ho => by
    have hl : i < L.length := by omega
    have hg := List.getElem?_eq_getElem hl
    obtain ⟨e, i1, u, rfl, hu, hel⟩ := hq.idx TO okO hg .i64
    have ev := lq28_11 (callω cfg) (loopω cfg) σ (.lsl id 2 0 acc.length none) q (L.length : Nat) (i : Nat)
    rw [List.drop_eq_getElem_cons hl] at ha ⊢
    simp only [tot] at ha
    have hx : IsQ σ 2 u L[i] := hu.q
    rw [if_pos (by rw [decide_eq_true_eq]; omega)] at ev
    simp only [i1, bind_some', ldtI, writeB_append uI uI hx.nostr, wrap_succ (show i < 4611686018427387904 by omega)] at ev
    by_cases hne : L[i].length = 0
    · have h0 : L[i] = [] := List.eq_nil_of_length_eq_zero hne
      rw [h0] at hx ha ⊢
      rw [appendv_none ElI hx.elems] at ev
      simp only [bind_some'] at ev
      obtain ⟨τ, r1, r2, r3⟩ := lpApp hq hL hn k (i + 1) σ acc (by omega) (by simpa using ha) ho
      exact ⟨τ, loopω_ofK (ev.trans r1), by simpa using r2, r3⟩
    · have hlen : (acc ++ List.replicate (n - acc.length) ([.int .i64 0, .nilsl] : List PV)).length = n := by simp; omega
      have ap : appendv Try.prog σ 28 (.lsl id 2 0 acc.length none) u = some (.lsl id 2 0 (acc.length + L[i].length) none, σ.put id (.cells 0 ((acc ++ L[i]) ++ List.replicate (n - (acc ++ L[i]).length) [.int .i64 0, .nilsl]))) := by
        rw [appendv_start ElI hx.elems hel.all1]
        simp only [ho]
        rw [if_neg hne, if_neg (by simp), if_pos ⟨by rw [hlen]; omega, by simp⟩, if_pos (Nat.zero_le _), Nat.zero_add, List.take_append_of_le_length (Nat.le_refl _), List.take_length, List.drop_append, List.drop_of_length_le (by omega), List.nil_append, List.drop_replicate]
        rw [List.length_append, show n - acc.length - (acc.length + L[i].length - acc.length) = n - (acc.length + L[i].length) by omega]
      rw [ap] at ev
      simp only [bind_some'] at ev
      obtain ⟨τ, r1, r2, r3⟩ := lpApp hq hL hn k (i + 1) _ (acc ++ L[i]) (by omega) (by rw [List.length_append]; omega) (put_obj _ _ _)
      have r1' := r1
      simp only [List.length_append] at r1' ev
      exact ⟨τ, loopω_ofK (ev.trans r1'), by rw [r2, List.append_assoc, List.flatten_cons], r3⟩
theorem spConcat {q : PV} {L : List Rw2} (hq : IsS RO q L) (hL : L.length < 1073741824) (h0 : 0 < tot L) (hn : tot L < 1073741824) : ∃ id τ, callω cfg 28 [q] .empty = some (.lsl id 2 0 (tot L) none, τ) ∧ τ.objs id = some (.cells 0 L.flatten) ∧ id < τ.next := by
  have ev := eq28 (callω cfg) (loopω cfg) .empty q
  have l1 := lpSize hq hL L.length 0 0 (by omega) (by rw [List.drop_zero]; omega)
  rw [natz, Nat.zero_add, List.drop_zero] at l1
  have g1 : callE cfg (callω cfg) 33 [.nilsl, .int .i64 (tot L : Nat)] .empty = _ := (callE_live rfl (by kernel_rfl)).trans (spGrow h0 hn .empty)
  obtain ⟨τ, r1, r2, r3⟩ := lpApp hq hL (id := Store.empty.next) hn L.length 0 (Store.empty.push (.cells 0 (List.replicate (tot L) [.int .i64 0, .nilsl]))) [] (by omega) (by simp) (by rw [List.length_nil, Nat.sub_zero, List.nil_append]; exact push_obj _ _)
  rw [List.length_nil] at r1
  rw [natz] at r1
  simp only [hq.len TO, bind_some', asInt_int, l1, onEx_exit, out28_3_3, out28_3_0, if_true, g1, r1, out28_11_6] at ev
  exact ⟨_, τ, callω_ofK (hT _) ev, by rw [r2]; simp, by rw [r3]; exact Nat.lt_succ_self _⟩
/-! ### As a word -/
theorem joinK_ok : ∀ {rows ps es : Rw2}, VFss rows ps → joinK rows = some es → rowsPl 2 es = true → ∃ L, All2 RO ps L ∧ VFss es L.flatten ∧ L.length = rows.length
  | _, _, es, .nil, h, _ => by
    cases h
    exact ⟨[], .nil, .nil, rfl⟩
  | _, _, es, .cons (es := rows) (ps := ps) (e := e) (p := p) hv t, h, hp => by
    unfold joinK at h
    split at h
    · rename_i heq; cases heq
    · rename_i b e0 r heq
      cases heq
      rw [Option.map_eq_some_iff] at h
      obtain ⟨x, h1, rfl⟩ := h
      have hp1 : rowsPl 2 e0 = true := by unfold rowsPl at hp ⊢; rw [List.all_append, Bool.and_eq_true] at hp; exact hp.1
      have hp2 : rowsPl 2 x = true := by unfold rowsPl at hp ⊢; rw [List.all_append, Bool.and_eq_true] at hp; exact hp.2
      obtain ⟨L, l1, l2, l3⟩ := joinK_ok t h1 hp2
      cases hv with
      | cons hv ht =>
        cases ht
        rcases (VK.fr (ρ := fun _ => .undef) (m := 0) hv).psl_inv with ⟨rfl, rfl⟩ | ⟨b', pp, rfl, hps⟩
        · exact ⟨[] :: L, .cons ⟨.nilsl, rfl, .inl ⟨rfl, rfl⟩, fun e he => by cases he⟩ l1, by rw [List.flatten_cons]; exact l2, by simp [l3]⟩
        · exact ⟨pp :: L, .cons ⟨_, rfl, .inr ⟨b', rfl⟩, rowsPl_els.1 (rowsPl_p hps hp1)⟩ l1, by rw [List.flatten_cons]; exact hps.app l2, by simp [l3]⟩
    · cases h
theorem concat_pur : ∀ args es, concatK 2 32 args = some es → ∀ pargs, VFs args pargs → ∃ p τ, callω cfg 28 pargs .empty = some (p, τ) ∧ VF (.psl false es) (fz fuelFz τ p) := by
  intro args es h pargs ha
  unfold concatK at h
  split at h
  · rename_i b rows
    rw [Option.bind_eq_some_iff] at h
    obtain ⟨x, h1, h2⟩ := h
    split at h2
    · rename_i hc
      cases h2
      obtain ⟨c1, c2, c3, c4, c5⟩ := hc
      cases ha with
      | cons hv ht =>
        cases ht
        rename_i p0
        have key : ∃ ps, IsP p0 ps ∧ VFss rows ps := by
          rcases (VK.fr (ρ := fun _ => .undef) (m := 0) hv).psl_inv with ⟨rfl, rfl⟩ | ⟨b', ps, rfl, hps⟩
          · exact ⟨[], .inl ⟨rfl, rfl⟩, .nil⟩
          · exact ⟨ps, .inr ⟨b', rfl⟩, hps⟩
        obtain ⟨ps, k1, k2⟩ := key
        obtain ⟨L, l1, l2, l3⟩ := joinK_ok k2 h1 c1
        have hlen := l2.len
        rw [tot_flat] at hlen
        obtain ⟨id, τ, s1, s2, s3⟩ := spConcat (q := p0) (L := L) ⟨ps, k1, l1⟩ (by omega) (by omega) (by omega)
        refine ⟨_, τ, s1, ?_⟩
        have hp := rowsPl_els.1 (rowsPl_p l2 c1)
        have hq : IsQ τ 2 (.lsl id 2 0 (tot L) none) L.flatten := .inr ⟨id, 0, none, 0, L.flatten, (tot_flat L).symm ▸ rfl, s2, by omega, by rw [List.drop_zero, List.take_length], s3⟩
        have hf := hq.frz hp.plain 6
        rcases hf with ⟨e1, e2⟩ | ⟨b', e1⟩
        · exfalso
          have h9 := tot_flat L
          rw [e2, List.length_nil] at h9
          omega
        · show VF _ (fz 8 τ _)
          rw [e1]
          exact .psl _ _ l2
    · cases h2
  · cases h
theorem concatK_two {α : Type} {enc : α → List PV} {b b1 b2 : Bool} (x y : List α) (h : ∀ a, (enc a).length = 2 ∧ (enc a).all PV.plain = true) (h0 : 0 < x.length + y.length) (hl : x.length + y.length < 1000000) : concatK 2 32 [.psl b [[.psl b1 (x.map enc)], [.psl b2 (y.map enc)]]] = some ((x ++ y).map enc) := by
  have h1 : rowsPl 2 ((x ++ y).map enc) = true := by
    unfold rowsPl
    rw [List.all_eq_true]
    intro e he
    obtain ⟨a, _, rfl⟩ := List.mem_map.1 he
    rw [(h a).2]
    simp [(h a).1]
  have hj : joinK [[.psl b1 (x.map enc)], [.psl b2 (y.map enc)]] = some ((x ++ y).map enc) := by
    rw [List.map_append]
    show some (x.map enc ++ (y.map enc ++ [])) = _
    rw [List.append_nil]
  unfold concatK
  simp only [hj, Option.bind_some]
  rw [if_pos ⟨h1, by simp; omega, by simp; omega, by simp; omega, by simp⟩]
end Go.Pvm.S
