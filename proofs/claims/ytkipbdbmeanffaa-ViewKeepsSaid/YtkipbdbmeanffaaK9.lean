/- Part of the proof: small laws for reading what a function comes to over values alone; copies. -/
import Derived.Test.YtkipbdbmeanffaaK8
set_option linter.unusedSimpArgs false
set_option linter.unusedVariables false
namespace Go.Pvm
/-- A copy of its own. -/
def cloneK (sz by_ : Nat) (args : List PV) : Option (List (List PV)) := match args with
  | [.psl _ es] => if rowsPl sz es = true ∧ es.all PV.own.owns = true ∧ es.length * by_ ≤ 140737488355328 then some es else none
  | _ => none
theorem cloneK_map {α : Type} {sz by_ : Nat} {b : Bool} {enc : α → List PV} (l : List α) (h : ∀ a, (enc a).length = sz ∧ (enc a).all PV.plain = true ∧ PV.own.owns (enc a) = true) (hb : l.length * by_ ≤ 140737488355328) : cloneK sz by_ [.psl b (l.map enc)] = some (l.map enc) := by
  have h1 : rowsPl sz (l.map enc) = true := by
    unfold rowsPl
    rw [List.all_eq_true]
    intro e he
    obtain ⟨a, _, rfl⟩ := List.mem_map.1 he
    rw [(h a).2.1]
    simp [(h a).1]
  have h2 : (l.map enc).all PV.own.owns = true := by
    rw [List.all_eq_true]
    intro e he
    obtain ⟨a, _, rfl⟩ := List.mem_map.1 he
    exact (h a).2.2
  show (if rowsPl sz (l.map enc) = true ∧ (l.map enc).all PV.own.owns = true ∧ (l.map enc).length * by_ ≤ 140737488355328 then some (l.map enc) else none) = _
  rw [if_pos ⟨h1, h2, by rw [List.length_map]; exact hb⟩]
theorem VF.own1 {v p : PV} (h : VF v p) (hp : v.plain = true) (ho : v.own = true) : p.own = true := by
  cases h with
  | undef => cases hp
  | base _ hb => exact ho
  | psl b b' h =>
    rename_i es ps
    have : es.isEmpty = true := ho
    have : ps.isEmpty = true := by
      cases h with
      | nil => rfl
      | cons => cases this
    exact this
  | nl => rfl
  | pref => cases ho
  | agg => cases hp
  | tuple => cases hp
  | func => cases hp
theorem VFs.own1 : ∀ {v p : List PV}, VFs v p → v.all PV.plain = true → PV.own.owns v = true → PV.own.owns p = true
  | _, _, .nil, _, _ => rfl
  | _, _, .cons h t, hp, ho => by
    rw [List.all_cons, Bool.and_eq_true] at hp
    unfold PV.own.owns at ho ⊢
    rw [Bool.and_eq_true] at ho
    rw [h.own1 hp.1 ho.1, t.own1 hp.2 ho.2]; rfl
theorem VFss.own1 {sz : Nat} : ∀ {v p : List (List PV)}, VFss v p → rowsPl sz v = true → v.all PV.own.owns = true → p.all PV.own.owns = true
  | _, _, .nil, _, _ => rfl
  | e :: es, _, .cons h t, hp, ho => by
    have hp1 := rowsPl_get hp (.head _)
    have hp2 : rowsPl sz es = true := by unfold rowsPl at hp ⊢; rw [List.all_cons, Bool.and_eq_true] at hp; exact hp.2
    rw [List.all_cons, Bool.and_eq_true] at ho ⊢
    exact ⟨h.own1 hp1.2 ho.1, t.own1 hp2 ho.2⟩
section
variable {β : Type}
theorem asSl_psl (b : Bool) (es : List (List PV)) (k : List (List PV) → Option β) : asSl (.psl b es) k = k es := rfl
theorem asSl_nil (k : List (List PV) → Option β) : asSl .nilsl k = k [] := rfl
theorem asAgg_agg (cs : List PV) (k : List PV → Option β) : asAgg (.agg cs) k = k cs := rfl
theorem asTup_tup (cs : List PV) (k : List PV → Option β) : asTup (.tuple cs) k = k cs := rfl
theorem asCons_cons (c : PV) (cs : List PV) (k : PV → List PV → Option β) : asCons (c :: cs) k = k c cs := rfl
theorem asNil_nil (k : Option β) : asNil [] k = k := rfl
theorem asFlt_flt (i : FloatKind) (n : Nat) (k : Nat → Option β) : asFlt i (.float i n) k = k n := by simp [asFlt]
theorem asRef_ref (a b c : Nat) (k : Option β) : asRef a b c (.ref a b c) k = k := by simp [asRef]
theorem asWhole_whole (a b : Nat) (k : Option β) : asWhole a b (whole a b) k = k := by simp [asWhole, whole]
theorem asWv_whole (a b : Nat) (k : Option β) (k' : Nat → Nat → Option β) : asWv a b (whole a b) k k' = k := by simp [asWv, whole]
theorem asWv_view (a b x n : Nat) (k : Option β) (k' : Nat → Nat → Option β) : asWv a b (viewK a b x n) k k' = k' x n := by simp [asWv, viewK]
theorem asView_view (a b x n : Nat) (k : Nat → Nat → Option β) : asView a b (viewK a b x n) k = k x n := by simp [asView, viewK]
theorem asFn_fn (f : FuncId) (cs : List PV) (k : List PV → Option β) : asFn f (.func f cs) k = k cs := by simp [asFn]
theorem asPref_pref (cs : List PV) (k : List PV → Option β) : asPref (.pref cs) k = k cs := rfl
theorem asOCons_cons (c : KO) (cs : List KO) (k : KO → List KO → Option β) : asOCons (c :: cs) k = k c cs := rfl
theorem asONil_nil (k : Option β) : asONil [] k = k := rfl
theorem asBox_box (w : Bool) (t : TypeId) (cs : List PV) (k : List PV → Option β) : asBox w t (.box w t cs) k = k cs := by simp [asBox]
theorem asBox_false (w : Bool) (t : TypeId) (cs : List PV) (k : List PV → Option β) : asBox false t (.box w t cs) k = k cs := by simp [asBox]
theorem asMade_made (w : Bool) (sz : Nat) (es : List (List PV)) (k : List (List PV) → Option β) : asMade w sz (.made w sz es) k = k es := by simp [asMade]
theorem asMade_false (w : Bool) (sz : Nat) (es : List (List PV)) (k : List (List PV) → Option β) : asMade false sz (.made w sz es) k = k es := by simp [asMade]
theorem asGone_dead (k : Option β) : asGone .dead k = k := rfl
theorem asGone_made (w : Bool) (sz : Nat) (es : List (List PV)) (k : Option β) : asGone (.made w sz es) k = k := rfl
theorem getD_mkS {n i : Nat} (h : i < n) (l : List (Nat × PV)) : List.getD (mkS n l) i .undef = (l.lookup i).getD .undef := by
  unfold mkS
  rw [List.getD_eq_getElem?_getD, List.getElem?_map, List.getElem?_range h]
  rfl
end
/-- A row's answer. -/
theorem bool_of_fz {n : Nat} {σ : Store} {p : PV} {b : Bool} (h : VF (.bool b) (fz n σ p)) : p = .bool b := by
  have e := h.base_eq rfl
  cases n with
  | zero => cases e
  | succ n =>
    cases p <;> first | exact e | (unfold fz at e; simp only at e; first | (cases e; done) | (split at e <;> first | (cases e; done) | (split at e <;> cases e)))
theorem rowsPl_nil (sz : Nat) : rowsPl sz [] = true := rfl
theorem rowsPl_map {α : Type} {sz : Nat} {enc : α → List PV} (l : List α) (h : ∀ a, (enc a).length = sz ∧ (enc a).all PV.plain = true) : rowsPl sz (l.map enc) = true := by
  unfold rowsPl
  rw [List.all_eq_true]
  intro e he
  obtain ⟨a, _, rfl⟩ := List.mem_map.1 he
  rw [(h a).2]
  simp [(h a).1]
theorem lens_map {α : Type} {sz : Nat} {enc : α → List PV} (l : List α) (h : ∀ a, (enc a).length = sz) : ((l.map enc).all fun e => e.length == sz) = true := by
  rw [List.all_eq_true]
  intro e he
  obtain ⟨a, _, rfl⟩ := List.mem_map.1 he
  simp [h a]
end Go.Pvm
