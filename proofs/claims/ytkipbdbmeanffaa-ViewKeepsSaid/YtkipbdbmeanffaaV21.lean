/- Part of the proof: from the evaluator's word to the row: true, the input as it was. -/
import Derived.Test.YtkipbdbmeanffaaV20
set_option linter.unusedSimpArgs false
set_option linter.unusedVariables false
namespace Go.Pvm
open Go.ChangeShapes Go.WideShapes Go.ChangeAt Go.RowKit

/-- A value of a type, as an argument. -/
def WTV (P : Program) (t : TypeId) (v : PV) : Prop :=
  ∃ n, match aggD ((P.underlying t).getD .bool) with
    | true => ∃ cs, v = .agg cs ∧ WT P true n t cs
    | false => WT P true n t [v]

def WTArgs (P : Program) : List TypeId → List PV → Prop
  | [], [] => True
  | t :: ts, v :: vs => WTV P t v ∧ WTArgs P ts vs
  | _, _ => False

section
variable {H : Type} {enc : TypeId × Value → H} {P : Program} {W : World}

theorem spot_cell {P : Program} {base : Nat} {t : TypeId} {v : Value} (h : Cell.okWide P W .any base t v) : spotless v := by
  unfold Cell.okWide at h
  cases v <;> try trivial
  rename_i a len cap
  cases a with
  | none => trivial
  | some a =>
    show a.spot = none
    cases hu : P.underlying t with
    | none => rw [hu] at h; simp [Cell.ok, hu] at h
    | some d =>
      rw [hu] at h
      cases d <;> simp [Cell.ok, hu] at h
      case slice e => exact h.2.2.2.1

theorem row_args (hl : laidOutB P = true) {base : Nat} : ∀ (ts : List TypeId) (vs : List Value) (ds : List (DataW H)) (ps : List MemPlace), DataW.TrodAll enc P W 0 (fun _ => true) true ts vs ds ps →
    (∀ (j : Nat) (t : TypeId) (v : Value), ts[j]? = some t → vs[j]? = some v → Value.okWide P W .any base t v) → (∀ t ∈ ts, isVar P t = true) →
    (∀ k ∈ DataW.weightsEach P ts ds, k ≤ reachBytes) → ∃ pvs, WTArgs P ts pvs ∧ VPs (olds W) W pvs vs
  | [], vs, ds, ps, h, _, _, _ => by
    obtain ⟨rfl, rfl, rfl⟩ := trodAll_nil h
    exact ⟨[], trivial, VPs.nil'⟩
  | t :: ts, vs, ds, ps, h, hok, hv, hw => by
    obtain ⟨v, vs, d, ds, p, q, rfl, rfl, rfl, h1, h2⟩ := trodAll_cons h
    obtain ⟨pvs, k1, k2⟩ := row_args hl ts vs ds q h2 (fun j t v a b => hok (j + 1) t v (by simpa using a) (by simpa using b)) (fun t ht => hv t (.tail _ ht)) (fun k hk => hw k (by unfold DataW.weightsEach; exact List.mem_append_right _ hk))
    obtain ⟨n, hn⟩ := h1
    have hokv := hok 0 t v rfl rfl
    have hw0 : ∀ k ∈ d.weights P t, k ≤ reachBytes := fun k hk => hw k (by unfold DataW.weightsEach; exact List.mem_append_left _ hk)
    have hvt := hv t (.head _)
    have single : aggD ((P.underlying t).getD .bool) = false → ∃ pv, WTV P t pv ∧ VP (olds W) W pv v := fun ha => by
      have hc : Cell.okWide P W .any base t v := by
        unfold Value.okWide at hokv
        cases hu : P.underlying t with
        | none => rw [hu] at hokv; exact hokv
        | some d => rw [hu] at hokv ha; cases d <;> first | exact hokv | (cases ha; done)
      have hone : v.cells.toList = [v] := by
        cases v <;> first | rfl | (exfalso; unfold Cell.okWide at hc; cases hu : P.underlying t with | none => (rw [hu] at hc; simp [Cell.ok, hu] at hc) | some d => (rw [hu] at hc; cases d <;> simp [Cell.ok, hu] at hc))
      rw [hone] at hn
      obtain ⟨pv, a1, a2⟩ := dec hl n t [v] _ true hn hvt (fun _ u hu => by
        simp at hu
        subst hu
        exact spot_cell hc) hw0
      have hl1 := a2.1
      obtain ⟨c, rfl⟩ := List.length_eq_one_iff.1 (show pv.length = 1 by simpa using hl1.symm)
      exact ⟨c, ⟨n, by rw [ha]; exact a1⟩, a2.2 0 c v rfl rfl⟩
    have agg : aggD ((P.underlying t).getD .bool) = true → ∃ pv, WTV P t pv ∧ VP (olds W) W pv v := fun ha => by
      have hc : ∃ cs, v = .agg cs ∧ cs.size = P.cellsOf t ∧ Row.okWide P W .any base t cs := by
        unfold Value.okWide at hokv
        cases hu : P.underlying t with
        | none => rw [hu] at ha; cases ha
        | some d => rw [hu] at hokv ha; cases d <;> first | exact hokv | (cases ha; done)
      obtain ⟨cs, rfl, _, ts', _, _, hcell⟩ := hc
      obtain ⟨pv, a1, a2⟩ := dec hl n t cs.toList _ true hn hvt (fun _ u hu => by
        obtain ⟨i, hi⟩ := List.getElem?_of_mem hu
        obtain ⟨u', _, hk⟩ := hcell i u (by rw [← Array.getElem?_toList]; exact hi)
        exact spot_cell hk) hw0
      refine ⟨.agg pv, ⟨n, by rw [ha]; exact ⟨pv, rfl, a1⟩⟩, ?_⟩
      have := VP.agg' a2
      simpa using this
    obtain ⟨pv, a1, a2⟩ : ∃ pv, WTV P t pv ∧ VP (olds W) W pv v := by
      cases ha : aggD ((P.underlying t).getD .bool) with
      | true => exact agg ha
      | false => exact single ha
    exact ⟨pv :: pvs, ⟨a1, k1⟩, VPs.append (a := [pv]) (x := [v]) (.one a2) k2⟩

theorem all_stays (hl : laidOutB P = true) {W' : World} (hb : Below W.heap.size W W') {sp : Nat → Bool} : ∀ (ts : List TypeId) (vs : List Value) (ds : List (DataW H)) (ps : List MemPlace), DataW.TrodAll enc P W 0 (fun _ => true) true ts vs ds ps →
    (∀ t ∈ ts, isVar P t = true ∧ P.readableRec t = true) → (∀ p ∈ ps, p.block < W.heap.size ∧ sp p.block = true) → DataW.TrodAll enc P W' 0 sp true ts vs ds ps
  | [], vs, ds, ps, h, _, _ => by
    obtain ⟨rfl, rfl, rfl⟩ := trodAll_nil h
    exact rfl
  | t :: ts, vs, ds, ps, h, hr, hp => by
    obtain ⟨v, vs, d, ds, p, q, rfl, rfl, rfl, h1, h2⟩ := trodAll_cons h
    refine ⟨p, q, WideElems.Trod_stays hl (hr t (.head _)).2 (isVar_lt (hr t (.head _)).1) h1 (fun x hx => hb.same (hp x (List.mem_append_left _ hx)).1) (fun x hx => (hp x (List.mem_append_left _ hx)).2), ?_, rfl⟩
    exact all_stays hl hb ts vs ds q h2 (fun t ht => hr t (.tail _ ht)) fun x hx => hp x (List.mem_append_right _ hx)
end

theorem row_lifted {C : Checked} {os : Os} {f : FuncId} {fn : Func} {s : ChangeSpec} {conds : List PathCond} {fresh handsOn : Bool} {H : Type} {enc : TypeId × Value → H} {cfg : Cfg}
    (hP : cfg.P = C.prog) (hT : ∀ f, cfg.told f = none) (hl : laidOutB C.prog = true) (own : ownKnob C.prog.godebug = none) (started : os.Started) (noInit : C.prog.inits.idxOf? f = none) (hfn : C.prog.funcs[f]? = some fn)
    {tb : TypeId} (hres : fn.resultTypes = #[tb]) (htb : C.prog.underlying tb = some .bool) (hpar : (fn.params.toList.all fun t => isVar C.prog t && C.prog.readableRec t) = true)
    (hvars : s.vars = []) (hsp : ∀ (H : Type) (ds : List (DataW H)), ds.length = fn.params.size → s.fn H ds = { results := [.lit (.bool true)], args := ds })
    (witness : ∃ (w : World) (tape : Tape) (i : Input), w.os = os ∧ (w.forCall tape i).Shaped C.prog ∧ i.vars = [] ∧ Input.okWide C.prog (w.forCall tape i) .any w.heap.size f i ∧
      s.pre6 enc C.prog fn conds false (w.forCall tape i).memory i.args ∧ ({} : Assume).holds C.prog (lone (Frame.enter C.prog f i.args .normal) [] (w.forCall tape i)))
    (main : ∀ pvs : List PV, WTArgs C.prog fn.params.toList pvs → ∃ σ', callω cfg f pvs .empty = some (.bool true, σ')) :
    ReturnsInHanded {} C os f .any (s.pre6 enc C.prog fn conds false) (s.post enc C.prog fn false fresh handsOn false) := by
  refine returnsInHanded_of_calls own started noInit witness ?_
  intro w tape i _ _ _ hok hpre hholds
  obtain ⟨_, _, _, fn', hfn', _, _, _, _, hval⟩ := hok
  have e : fn' = fn := Option.some.inj (hfn'.symm.trans hfn)
  subst e
  obtain ⟨⟨ds, gs, before, hw, hc⟩, hz⟩ := hpre
  have hwt := hz.weights hw
  have hW := DataW.Whole.of_heap (w' := w.forCall tape i) (by rfl) hw
  generalize w.forCall tape i = W at *
  have hW0 := hW
  obtain ⟨p, q, hA, hV, rfl, hfz, hnd⟩ := hW
  rw [hvars] at hV
  obtain ⟨rfl, rfl⟩ := trodVars_none hV
  simp only [List.all_eq_true, Bool.and_eq_true] at hpar
  have hdl : ∀ (ts : List TypeId) (vs : List Value) (ds : List (DataW H)) (ps : List MemPlace), DataW.TrodAll enc C.prog W 0 (fun _ => true) true ts vs ds ps → ds.length = ts.length := by
    intro ts
    induction ts with
    | nil => intro vs ds ps h; obtain ⟨rfl, rfl, rfl⟩ := trodAll_nil h; rfl
    | cons t ts ih => intro vs ds ps h; obtain ⟨v, vs, d, ds, p, q, rfl, rfl, rfl, h1, h2⟩ := trodAll_cons h; simp [ih _ _ _ h2]
  have hlen : ds.length = fn'.params.size := by simpa using hdl _ _ _ _ hA
  obtain ⟨pvs, k1, k2⟩ := row_args hl (base := w.heap.size) _ _ _ _ hA (fun j t v a b => hval j t v (by rw [← Array.getElem?_toList]; exact a) (by rw [← Array.getElem?_toList]; exact b)) (fun t ht => (hpar t ht).1)
    (fun k hk => by
      have hvt : (OpenSpec.ofChange s).bare.plain.varTypes C.prog = [] := by
        simp [OpenSpec.ofChange, OpenSpec.bare, ChangeSpec.plain, DataSpec.varTypes, hvars]
      rw [hvt, List.append_nil, List.append_nil, List.all_eq_true] at hwt
      simpa using hwt k hk)
  obtain ⟨σ', hm⟩ := main pvs k1
  have ok := (omega_ok (cfg := cfg) hT (by rw [hP]; exact C.mixed)).ok f pvs .empty _ _ hm (fun _ => none) (olds W) W i.args.toList (SR.empty (fun b o h => h) 0) ⟨k2.1, fun i c u a b => .pure (k2.2 i c u a b)⟩ (fun _ _ _ => rfl)
  rw [hP] at ok
  refine ok.mono fun e W' ⟨vc, ρ', F', he, g, s', hv⟩ => ?_
  obtain rfl := hv.bool_inv
  subst he
  have hb : Below W.heap.size W W' := ⟨g.os, g.tape, g.out, g.size, fun k hk => g.frame k hk fun ⟨_, _, _, h, _⟩ => by cases h⟩
  have hlt : ∀ x ∈ p, x.block < W.heap.size := fun x hx => hW0.lt x (by simpa using hx)
  have hp : s.post enc C.prog fn' false fresh handsOn false W i.args (.bool true) W' := by
    refine ⟨ds, [], p ++ [], [], p, [], hW0, ?_, ?_, ?_, hb.frame _, fun h => by cases h⟩
    · rw [List.append_nil, hsp H ds hlen, hres]
      exact trodAll_mk1 (shut_bool htb true)
    · rw [List.append_nil, hsp H ds hlen]
      exact all_stays hl hb _ _ _ _ hA hpar fun x hx => ⟨hlt x hx, by simpa using hlt x hx⟩
    · rw [hvars, List.append_nil, hsp H ds hlen]
      exact rfl
  exact ChangeSpec.post_blind hp
end Go.Pvm
