/- Part of the proof: stores, 'append', 'copy', 'clear'. -/
import Derived.Test.YtkipbdbmeanffaaV5
set_option linter.unusedSimpArgs false
set_option linter.unusedVariables false
namespace Go.Pvm
section
variable {P : Program} {ρ : Where} {F : Froz} {w : World} {σ : Store}

/-- The cells of a row with some of them other ones. -/
def laid (arr : Array Value) (o : Nat) (us : List Value) : Array Value := (arr.toList.take o ++ us ++ arr.toList.drop (o + us.length)).toArray

theorem laid_size {arr : Array Value} {o : Nat} {us : List Value} (h : o + us.length ≤ arr.size) : (laid arr o us).size = arr.size := by
  unfold laid; simp; omega
theorem laid_get {arr : Array Value} {o : Nat} {us : List Value} (h : o + us.length ≤ arr.size) (i : Nat) :
    (laid arr o us)[i]? = if i < o then arr[i]? else if i < o + us.length then us[i - o]? else arr[i]? := by
  unfold laid
  rw [List.getElem?_toArray, List.getElem?_append, List.getElem?_append]
  simp only [List.length_append, List.length_take, List.getElem?_take, List.getElem?_drop, Array.length_toList]
  rw [Nat.min_eq_left (by omega)]
  by_cases h1 : i < o
  · simp [h1, show i < o + us.length by omega]
  · by_cases h2 : i < o + us.length
    · simp [h1, h2]
    · simp [h1, h2]
      congr 1
      omega

/-- Elements within a row, from element 'idx' on, other ones. -/
def setEls (es : List (List PV)) (idx : Nat) (new : List (List PV)) : List (List PV) := es.take idx ++ new ++ es.drop (idx + new.length)
theorem setEls_length {es new : List (List PV)} {idx : Nat} (h : idx + new.length ≤ es.length) : (setEls es idx new).length = es.length := by
  unfold setEls; simp; omega
theorem setEls_get {es new : List (List PV)} {idx : Nat} (h : idx + new.length ≤ es.length) (i : Nat) : (setEls es idx new)[i]? = if i < idx then es[i]? else if i < idx + new.length then new[i - idx]? else es[i]? := by
  unfold setEls
  rw [List.getElem?_append, List.getElem?_append]
  simp only [List.length_append, List.length_take, List.getElem?_take, List.getElem?_drop]
  rw [Nat.min_eq_left (by omega)]
  by_cases h1 : i < idx
  · simp [h1, show i < idx + new.length by omega]
  · by_cases h2 : i < idx + new.length
    · simp [h1, h2]
    · simp [h1, h2]
      congr 1
      omega

theorem mul_lt_of {i n sz j : Nat} (hi : i < n) (hj : j < sz) : i * sz + j < n * sz := by
  have : (i + 1) * sz ≤ n * sz := Nat.mul_le_mul_right _ hi
  rw [Nat.add_mul] at this
  omega

/-- Elements of an object are written, in its own block. -/
theorem setEls_sound (hs : SR ρ F σ w) {id : Nat} {r : Rec} {ro : Nat} {es : List (List PV)} (hr : ρ id = some r) (ho : σ.objs id = some (.cells ro es)) {idx : Nat} {new : List (List PV)} {us : List Value}
    (hnew : ∀ e ∈ new, e.length = r.sz) (hus : VRs ρ F w new.flatten us) (hle : idx + new.length ≤ es.length) (hro : ro ≤ idx) {arr : Array Value} {ty : TypeId} (hb : w.heap[r.block]? = some (.cells arr ty (0, 0))) :
    r.sh + idx * r.sz + us.length ≤ arr.size ∧ Go1 ρ F σ w ρ F (σ.put id (.cells ro (setEls es idx new))) (w.setRow r.block (laid arr (r.sh + idx * r.sz) us)) ∧
    SR ρ F (σ.put id (.cells ro (setEls es idx new))) (w.setRow r.block (laid arr (r.sh + idx * r.sz) us)) := by
  obtain ⟨arr', ty', hb', hp, hn, hsz, hfit, hrn, hz0, hF, hc⟩ := (hs.obj id r _ hr ho).cells_inv
  rw [hb] at hb'
  cases hb'
  have hul : us.length = new.length * r.sz := by rw [hus.1, flatten_length new hnew]
  have hend : r.sh + idx * r.sz + us.length ≤ arr.size := by
    have : (idx + new.length) * r.sz ≤ r.n * r.sz := Nat.mul_le_mul_right _ (by omega)
    rw [Nat.add_mul] at this
    rw [hul, hp]
    omega
  have hlg := laid_get hend
  refine ⟨hend, ?_⟩
  have := write_sound (id' := id) (r' := r) (o' := .cells ro (setEls es idx new)) (σ' := σ.put id (.cells ro (setEls es idx new))) (arr' := laid arr (r.sh + idx * r.sz) us) hs hr ho hb (laid_size hend) (fun k hk => ?_) rfl (.inl ⟨rfl, rfl⟩)
    (fun i x e => ?_) (Nat.le_refl _) (fun e => ?_) (fun i hi => ?_) (fun {ρ' w'} hnb hm => ?_)
  · rwa [Where.put_self hr] at this
  · rw [hlg, if_pos]
    rcases Nat.lt_or_ge k (r.sh + idx * r.sz) with h | h
    · exact h
    · have : ro * r.sz ≤ idx * r.sz := Nat.mul_le_mul_right _ hro
      exact absurd hk (hF k (by omega))
  · simp only [Store.put] at e
    split at e
    · rename_i hi; cases e; exact .inl ⟨hi, rfl⟩
    · rename_i hi; exact .inr ⟨hi, hi, e⟩
  · have := hs.new id (by omega)
    rw [ho] at this
    cases this
  · simp only [Store.put] at hi ⊢
    split
    · rename_i hid
      subst hid
      have := hs.new i hi
      rw [ho] at this
      cases this
    · exact hs.new i hi
  · refine .cells ro _ _ ty hnb (by rw [laid_size hend, hp]) (by rw [setEls_length hle, hn]) (fun e he => ?_) hfit hrn hz0 hF fun i e he j x hx => ?_
    · unfold setEls at he
      simp only [List.mem_append] at he
      rcases he with (he | he) | he
      · exact hsz e (List.mem_of_mem_take he)
      · exact hnew e he
      · exact hsz e (List.mem_of_mem_drop he)
    · rw [setEls_get hle] at he
      rw [hlg]
      have hj : j < r.sz := by
        have h1 := (List.getElem?_eq_some_iff.1 hx).1
        have : e.length = r.sz := by
          split at he
          · exact hsz e (List.mem_of_getElem? he)
          · split at he
            · exact hnew e (List.mem_of_getElem? he)
            · exact hsz e (List.mem_of_getElem? he)
        omega
      split at he
      · rename_i hi
        have := mul_lt_of hi hj
        rw [if_pos (by omega)]
        obtain ⟨v, h1, h2⟩ := hc i e he j x hx
        exact ⟨v, h1, hm h2⟩
      · rename_i hi
        have h3 : idx * r.sz ≤ i * r.sz := Nat.mul_le_mul_right _ (by omega)
        split at he
        · rename_i hi2
          have h4 : (i - idx) * r.sz = i * r.sz - idx * r.sz := Nat.sub_mul _ _ _
          have h5 : (i - idx) * r.sz + j < new.length * r.sz := mul_lt_of (by omega) hj
          rw [if_neg (by omega), if_pos (by rw [hul]; omega)]
          obtain ⟨u, h1, h2⟩ := hus.get (flatten_get new hnew _ _ _ _ he hx)
          exact ⟨u, by rw [← h1]; congr 1; omega, hm h2⟩
        · rename_i hi2
          have h4 : (idx + new.length) * r.sz ≤ i * r.sz := Nat.mul_le_mul_right _ (by omega)
          rw [Nat.add_mul] at h4
          rw [if_neg (by omega), if_neg (by rw [hul]; omega)]
          obtain ⟨v, h1, h2⟩ := hc i e he j x hx
          exact ⟨v, h1, hm h2⟩

theorem all_one {cs : List PV} {us : List Value} (h : VRs ρ F w cs us) (h1 : ∀ x ∈ cs, x.one = true) : ∀ u ∈ us, u.oneCell' = true := by
  intro u hu
  obtain ⟨i, hi⟩ := List.mem_iff_getElem?.1 hu
  have hlt : i < cs.length := by rw [← h.1]; exact (List.getElem?_eq_some_iff.1 hi).1
  exact (h.2 i _ u (List.getElem?_eq_getElem hlt) hi).one (h1 _ (List.getElem_mem _))

theorem known_of_one : ∀ v : PV, (v.cells.all PV.one) = true → v.known = true
  | .undef => by simp [PV.cells, PV.one]
  | .bool _ | .int _ _ | .float _ _ | .str _ | .nilptr | .ref .. | .pref _ | .nilsl | .psl .. | .lsl .. | .nilmap | .mref _ | .nilfunc | .func .. | .niliface | .agg _ | .tuple _ => fun _ => rfl

theorem store_run (hs : SR ρ F σ w) {t : TypeId} {a v : PV} {σ' : Store} (h : storev P σ t a v = some σ') {ca cv : Value} (ha : VR ρ F w a ca) (hv : VR ρ F w v cv) :
    ∃ w', (Instr.storeAt t ca cv).run P w = .ok () w' ∧ Go1 ρ F σ w ρ F σ' w' ∧ SR ρ F σ' w' ∧ σ'.next = σ.next := by
  unfold storev at h
  split at h
  · rename_i id idx off
    split at h
    · rename_i ro es ho
      simp only [Option.bind_eq_some_iff] at h
      obtain ⟨e, he, n, hn, h⟩ := h
      split at h
      · rename_i hh
        obtain ⟨h1, h2, h3, h4⟩ := hh
        cases h
        obtain ⟨r, hr, rfl⟩ := ha.ref_inv
        have hO := hs.obj id r _ hr ho
        obtain ⟨arr, ty, hb, hp, hnn, hsz, hfit, hrn, hz0, hF, hc⟩ := hO.cells_inv
        have hcv := hv.cells (known_of_one v h3)
        have hcl : cv.cells.size = n := by have := hcv.1; simp at this; omega
        have hel : e.length = r.sz := hsz e (List.mem_of_getElem? he)
        have hlt : idx < es.length := (List.getElem?_eq_some_iff.1 he).1
        obtain ⟨us0, q1, q2⟩ := (hO.elem he).list
        have hus : VRs ρ F w [over e off v.cells].flatten (us0.take off ++ cv.cells.toList ++ us0.drop (off + cv.cells.toList.length)) := by
          simp only [List.flatten_cons, List.flatten_nil, List.append_nil, over]
          have e1 : v.cells.length = cv.cells.toList.length := hcv.1.symm
          rw [e1]
          exact ((q1.take off).append hcv).append (q1.drop _)
        have e2 : setEls es idx [over e off v.cells] = es.set idx (over e off v.cells) := by
          apply List.ext_getElem?
          intro i
          rw [setEls_get (by simp; omega)]
          simp only [List.length_singleton]
          by_cases hi : i = idx
          · subst hi; simp [hlt]
          · rw [List.getElem?_set_ne (Ne.symm hi)]
            by_cases hl : i < idx
            · rw [if_pos hl]
            · rw [if_neg hl, if_neg (by omega)]
        obtain ⟨hend, g, s⟩ := setEls_sound hs hr ho (idx := idx) (new := [over e off v.cells]) (by intro x hx; simp at hx; subst hx; rw [over_length (by omega)]; exact hel) hus (by simp; omega) h4 hb
        rw [e2] at g s
        refine ⟨_, ?_, g, s, rfl⟩
        have hul : us0.length = r.sz := by rw [q1.1, hel]
        have h1c : ∀ u ∈ cv.cells.toList, u.oneCell' = true := all_one hcv (by simpa using h3)
        have hst := run_storeCells_at P r.block (r.sh + idx * r.sz + off) ty cv.cells.toList 0 arr w hb (by
          have : (idx + 1) * r.sz ≤ r.n * r.sz := Nat.mul_le_mul_right _ (by omega)
          rw [Nat.add_mul] at this
          simp; omega) h1c
        simp only [Nat.add_zero] at hst
        simp only [Instr.storeAt, Instr.sureAddr, Sem.run_bind, Sem.run_pure, Result.andThen_ok, storeVar, run_szOf hn, hcl, ne_eq, not_true, if_false, hst]
        congr 2
        apply Array.ext'
        apply List.ext_getElem?
        intro i
        rw [Array.getElem?_toList, Array.getElem?_toList, laid_get hend]
        have hfin : r.sh + idx * r.sz + off + cv.cells.toList.length ≤ arr.size := by
          have : (idx + 1) * r.sz ≤ r.n * r.sz := Nat.mul_le_mul_right _ (by omega)
          rw [Nat.add_mul] at this
          simp; omega
        rw [show (arr.toList.take (r.sh + idx * r.sz + off) ++ cv.cells.toList ++ arr.toList.drop (r.sh + idx * r.sz + off + cv.cells.toList.length)).toArray = laid arr (r.sh + idx * r.sz + off) cv.cells.toList from rfl, laid_get hfin]
        have hcl' : cv.cells.toList.length = n := by simpa using hcl
        have htot : (us0.take off ++ cv.cells.toList ++ us0.drop (off + cv.cells.toList.length)).length = r.sz := by simp [hul, hcl]; omega
        rw [htot, hcl']
        have hold : ∀ j, j < r.sz → us0[j]? = arr[r.sh + idx * r.sz + j]? := by
          intro j hj
          have hj' : j < us0.length := by omega
          have := q2 j _ (List.getElem?_eq_getElem hj')
          simp only [World.cell?, hb, Option.isSome_none, Bool.false_eq_true, if_false] at this
          rw [List.getElem?_eq_getElem hj', this]
        by_cases c1 : i < r.sh + idx * r.sz
        · rw [if_pos (by omega), if_pos c1]
        · rw [if_neg c1]
          by_cases c2 : i < r.sh + idx * r.sz + r.sz
          · rw [if_pos c2, List.getElem?_append, List.getElem?_append]
            simp only [List.length_append, List.length_take, hul, hcl', Nat.min_eq_left (show off ≤ r.sz by omega)]
            by_cases c3 : i < r.sh + idx * r.sz + off
            · rw [if_pos c3, if_pos (by omega), if_pos (by omega), List.getElem?_take, if_pos (by omega), hold _ (by omega)]
              congr 1; omega
            · rw [if_neg c3]
              by_cases c4 : i < r.sh + idx * r.sz + off + n
              · rw [if_pos c4, if_pos (by omega), if_neg (by omega)]
                congr 1; omega
              · rw [if_neg c4, if_neg (by omega), List.getElem?_drop, hold _ (by omega)]
                congr 1; omega
          · rw [if_neg c2, if_neg (by omega), if_neg (by omega)]
      · cases h
    · cases h
  · cases h

end
end Go.Pvm
