/- Part of the proof: 'append', 'copy', 'clear' as the evaluator has them. -/
import Derived.Test.YtkipbdbmeanffaaV7
set_option linter.unusedSimpArgs false
set_option linter.unusedVariables false
namespace Go.Pvm
section
variable {P : Program} {ρ : Where} {F : Froz} {w : World} {σ : Store}

theorem Res.of_heap {w1 : World} {σ' : Store} {v : PV} {s : Sem Value} (hh : w1.heap = w.heap) (h1 : w1.os = w.os) (h2 : w1.tape = w.tape) (h3 : w1.output = w.output)
    (h : ∃ u ρ' F' w', s.run P w = .ok u w' ∧ Go1 ρ F σ w1 ρ' F' σ' w' ∧ SR ρ' F' σ' w' ∧ VR ρ' F' w' v u) : Res P ρ F σ w σ' v s := by
  obtain ⟨u, ρ', F', w', e, g, s, hv⟩ := h
  exact ⟨u, ρ', F', w', e, (Go1.heap hh h1 h2 h3).trans g, s, hv⟩

/-- A row grows into a new one. -/
theorem grow_res (hs : SR ρ F σ w) (hn : ρ σ.next = none) {t u ty el : TypeId} {d : TypeDesc} (ht : P.underlying t = some (.slice el)) (hu : P.underlying u = some d) (hd : SrcT d)
    {sz by_ : Nat} {z : PV} (hsz : szOf P el = some sz) (hby : byOf P el = some by_) (hz : zeroOf P el = some z) (h0 : sz ≠ 0) (hb0 : by_ ≠ 0) (hzk : z.known = true) (hzl : z.cells.length = sz)
    {a : Option Addr} {sLen sCap : Nat} {x : PV} {new old : List (List PV)} {cx : Value} (hx : elemsOf σ x = some new) (hvx : VR ρ F w x cx) (hnz : ∀ e ∈ new, e.length = sz) (hoz : ∀ e ∈ old, e.length = sz) (hol : old.length = sLen)
    {us0 : List Value} (hus0 : VRs ρ F w old.flatten us0) (hold : (Builtin.firstCells sz sLen (.slice a sLen sCap)).run P w.drew = .ok us0.toArray w.drew)
    (hroom : sCap < sLen + new.length) (hb : (sLen + new.length) * by_ ≤ 140737488355328) (ro : Nat) (hro : ro ≤ (old ++ new).length) :
    Res P ρ F σ w (σ.push (.cells ro (old ++ new))) (.lsl σ.next sz 0 (sLen + new.length) none) (Builtin.append_ #[t, u] ty #[.slice a sLen sCap, cx]) := by
  obtain ⟨i, hi, rfl⟩ := szOf_info hsz
  obtain ⟨i', zv, hi', hzv, rfl⟩ := zeroOf_spec hz
  rw [hi] at hi'
  cases hi'
  have hby' : i.bytes = by_ := by unfold byOf at hby; rw [hi] at hby; simpa using hby
  subst hby'
  obtain ⟨us, h1, h2, h3⟩ := src_run (P := P) hs hx hvx hnz
  have hfull : us.take (new.length * i.size) = us := List.take_of_length_le (by rw [h1.1, flatten_length new hnz]; exact Nat.le_refl _)
  have hnew := h3 new.length (Nat.le_refl _) w.drew rfl
  rw [hfull] at hnew
  have hr := grow_run (P := P) (w := w) (ty := ty) ht hu hd hi hzv h2 hnew hold hroom hb0 hb
  have hcap : sLen + new.length ≤ grownCap w (sLen + new.length) sCap el := grownCap_ge w _ _ _
  have hzs : zv.cells.size = i.size := by have := ((zero_vr (ρ := ρ) (F := F) (w := w) zv).cells hzk).1; simp at this; omega
  have hall : ∀ e ∈ old ++ new, e.length = i.size := fun e he => by
    rcases List.mem_append.1 he with he | he
    · exact hoz e he
    · exact hnz e he
  have hvr : VRs ρ F w (old ++ new).flatten (us0 ++ us) := by rw [List.flatten_append]; exact hus0.append h1
  have hf := Flat.of_vrs (rest := (Builtin.zeroCells zv.cells (grownCap w (sLen + new.length) sCap el - (sLen + new.length))).toList) hall hvr
  have hl : (us0 ++ us).length = (sLen + new.length) * i.size := by rw [hvr.1, flatten_length _ hall, List.length_append, hol]
  obtain ⟨ρ', g, s, hv⟩ := newRow_res (w1 := w.drew.alloc (.cells (us0 ++ us ++ (Builtin.zeroCells zv.cells (grownCap w (sLen + new.length) sCap el - (sLen + new.length))).toList).toArray el)) hs hn rfl rfl rfl rfl ro hro h0 hf
    (sLen + new.length) (grownCap w (sLen + new.length) sCap el) none (by rw [List.length_append, hol]; exact Nat.le_refl _) hcap (fun k hk => by cases hk) (fun _ => by rw [List.length_append, hol]; exact hcap) (by
      have e9 : (Builtin.zeroCells zv.cells (grownCap w (sLen + new.length) sCap el - (sLen + new.length))).toList.length = (grownCap w (sLen + new.length) sCap el - (sLen + new.length)) * i.size := by simp [size_zeroCells, hzs]
      rw [List.size_toArray, List.length_append, hl, e9, ← Nat.add_mul]
      exact Nat.mul_le_mul_right _ (by omega))
  exact ⟨_, ρ', F, _, hr, g, s, hv⟩

theorem nothing_taken {new : List (List PV)} {us : List Value} (hus : VRs ρ F w new.flatten us) (h : new.length = 0) : us = [] := by
  have : new = [] := List.length_eq_zero_iff.1 h
  subst this
  exact hus.nil_inv

/-- Nothing is appended. -/
theorem append_none (hs : SR ρ F σ w) {t u ty el : TypeId} {d : TypeDesc} (ht : P.underlying t = some (.slice el)) (hu : P.underlying u = some d) (hd : SrcT d) {sz : Nat} (hsz : szOf P el = some sz)
    {x s : PV} {new : List (List PV)} {cx cs : Value} (hx : elemsOf σ x = some new) (hvx : VR ρ F w x cx) (hnz : ∀ e ∈ new, e.length = sz) (h0 : new.length = 0) (hvs : VR ρ F w s cs) {a : Option Addr} {n c : Nat} (hcs : cs = .slice a n c) (hnc : n ≤ c) :
    Res P ρ F σ w σ s (Builtin.append_ #[t, u] ty #[cs, cx]) := by
  subst hcs
  obtain ⟨i, hi, rfl⟩ := szOf_info hsz
  obtain ⟨us, h1, h2, h3⟩ := src_run (P := P) hs hx hvx hnz
  obtain rfl := nothing_taken h1 h0
  have := h3 0 (by omega) w rfl
  rw [h0] at h2
  have hr := room_run (P := P) (w := w) (ty := ty) (a := a) (sLen := n) (sCap := c) (us := []) ht hu hd hi h2 (by simpa using this) (by omega) (w' := w) (fun b _ => by simp [storeCells]) (fun _ => rfl)
  exact .read hs ⟨_, hr, hvs⟩

theorem append_res (hs : SR ρ F σ w) {t u ty el : TypeId} {d : TypeDesc} (ht : P.underlying t = some (.slice el)) (hu : P.underlying u = some d) (hd : SrcT d) {s x v : PV} {σ' : Store} (h : appendv P σ el s x = some (v, σ'))
    (hn : ∀ id, σ.next ≤ id → id < σ'.next → ρ id = none) {cs cx : Value} (hvs : VR ρ F w s cs) (hvx : VR ρ F w x cx) : Res P ρ F σ w σ' v (Builtin.append_ #[t, u] ty #[cs, cx]) := by
  unfold appendv at h
  simp only [Option.bind_eq_some_iff] at h
  obtain ⟨sz, hsz, by_, hby, z, hz, new, hx, h⟩ := h
  split at h
  · cases h
  · rename_i hh
    simp only [not_or] at hh
    obtain ⟨h0, hb0, hzk, hzl⟩ := hh
    have hzk' : z.known = true := by simpa using hzk
    have hzl' : z.cells.length = sz := by simpa using hzl
    split at h
    · cases h
    · rename_i hall
      obtain ⟨hnz, hone⟩ := all1_spec (by simpa using hall)
      split at h
      · obtain rfl := hvs.nilsl_inv
        split at h
        · rename_i hnl
          cases h
          exact append_none hs ht hu hd hsz hx hvx hnz hnl hvs rfl (Nat.le_refl _)
        · rename_i hnl
          split at h
          · rename_i hle
            cases h
            have := grow_res (P := P) (ty := ty) (a := none) (sLen := 0) (sCap := 0) (old := []) (us0 := []) hs (hn _ (Nat.le_refl _) (by simp [Store.push])) ht hu hd hsz hby hz h0 hb0 hzk' hzl' hx hvx hnz (by simp) rfl .nil (by simp [Builtin.firstCells]) (by omega) (by simpa using hle) 0 (Nat.zero_le _)
            simpa using this
          · cases h
      · rename_i full es
        obtain ⟨sz', b, o, sp, k, rfl, hes, hlk, hfull, hcell, hsp⟩ := hvs.psl_inv
        split at h
        · rename_i hnl
          cases h
          exact append_none hs ht hu hd hsz hx hvx hnz hnl hvs rfl hlk
        · rename_i hnl
          split at h
          · rename_i hf
            split at h
            · rename_i hle
              split at h
              · rename_i hez
                cases h
                have hez' : ∀ e ∈ es, e.length = sz := by simpa [List.all_eq_true] using hez
                obtain rfl := hfull hf
                by_cases hes0 : es = []
                · subst hes0
                  have := grow_res (P := P) (ty := ty) (a := some ⟨b, o, sp⟩) (sLen := 0) (sCap := 0) (old := []) (us0 := []) hs (hn _ (Nat.le_refl _) (by simp [Store.push])) ht hu hd hsz hby hz h0 hb0 hzk' hzl' hx hvx hnz (by simp) rfl .nil (by simp [Builtin.firstCells, loadCells, loadCellsFrom]) (by omega) (by simpa using hle) 0 (Nat.zero_le _)
                  simpa using this
                obtain rfl := hsp (by have := List.length_pos_iff.2 hes0; omega)
                have hcat : CellsAt ρ F w b o es.flatten := CellsAt.flatten (sz := sz') es o hes fun i e he => VP.cellsAt fun j x hx => hcell i e he j x hx
                obtain ⟨us0, q1, q2⟩ := hcat.list
                have hl0 : us0.length = es.length * sz := by rw [q1.1, flatten_length es hez']
                exact grow_res (P := P) (ty := ty) hs (hn _ (Nat.le_refl _) (by simp [Store.push])) ht hu hd hsz hby hz h0 hb0 hzk' hzl' hx hvx hnz hez' rfl q1
                  (run_firstCells_some (P := P) w.drew sz es.length ⟨b, o, none⟩ _ _ us0 hl0 fun j v e => by rw [ad_add, World.cell?_drew]; exact q2 j v e) (by omega) hle 0 (Nat.zero_le _)
              · cases h
            · cases h
          · cases h
      · rename_i id sz' idx len cap
        obtain ⟨r, b, o, c, hr, hrs, rfl, hab, hlc, hk, hkn, hph, hinn⟩ := hvs.lsl_inv
        split at h
        · rename_i hnl
          cases h
          exact append_none hs ht hu hd hsz hx hvx hnz hnl hvs rfl hlc
        · rename_i hnl
          split at h
          · cases h
          · rename_i hsz'
            have hsz'' : sz' = sz := by simpa using hsz'
            have hrz : r.sz = sz := by rw [← hrs, hsz'']
            clear hsz'
            subst hsz''
            subst hrz
            split at h
            · rename_i ro es ho
              have hO := hs.obj id r _ hr ho
              obtain ⟨arr, ty0, hb, hp, hnn, hes, hfit, hrn, hz0, hF, hc⟩ := hO.cells_inv
              obtain ⟨us, h1, h2, h3⟩ := src_run (P := P) hs hx hvx hnz
              have hfull : us.take (new.length * r.sz) = us := List.take_of_length_le (by rw [h1.1, flatten_length new hnz]; exact Nat.le_refl _)
              have hus1 : ∀ q ∈ us, q.oneCell' = true := all_one h1 fun x hx => by
                obtain ⟨e, he, hxe⟩ := List.mem_flatten.1 hx
                exact hone e he x hxe
              have hul : us.length = new.length * r.sz := by rw [h1.1, flatten_length new hnz]
              obtain ⟨i, hi, hisz⟩ := szOf_info hsz
              have hroomRun : len + new.length ≤ c → r.sh + (idx + len) * r.sz + us.length ≤ arr.size →
                  (Builtin.append_ #[t, u] ty #[.slice (some ⟨b, o, none⟩) len c, cx]).run P w = .ok (.slice (some ⟨b, o, none⟩) (len + new.length) c) (w.setRow r.block (laid arr (r.sh + (idx + len) * r.sz) us)) := by
                intro hroom hend
                obtain ⟨rfl, rfl⟩ := hab (by omega)
                have hnew := h3 new.length (Nat.le_refl _) w rfl
                rw [hfull, ← hisz] at hnew
                refine room_run (P := P) (w := w) (ty := ty) ht hu hd hi h2 hnew hroom (fun b' e => ?_) (fun e => by cases e)
                cases e
                rw [hisz, ad_add]
                have hst := run_storeCells_at P r.block (r.sh + idx * r.sz + len * r.sz) ty0 us 0 arr w hb (by rw [Nat.add_mul] at hend; omega) hus1
                simp only [Nat.add_zero] at hst
                rw [hst, Nat.add_mul, ← Nat.add_assoc]
                rfl
              split at h
              · rename_i hin
                split at h
                · rename_i hro
                  cases h
                  have hcap : len + new.length ≤ c := by
                    cases hcc : cap with
                    | none => have := hkn hcc; omega
                    | some k => have := hk k hcc; rw [hcc] at hin; simp at hin; omega
                  obtain ⟨hend, g, s⟩ := setEls_sound hs hr ho (idx := idx + len) (new := new) hnz h1 (by omega) hro hb
                  have heq : es.take (idx + len) ++ new ++ es.drop (idx + len + new.length) = setEls es (idx + len) new := rfl
                  rw [heq]
                  refine ⟨_, ρ, F, _, hroomRun hcap hend, g, s, ?_⟩
                  exact .lsl id idx _ cap r b o c hr hab hcap hk hkn hph (by omega)
                · cases h
              · split at h
                · rename_i hin hle
                  split at h
                  · rename_i hby'
                    have hold : ∃ us0, VRs ρ F w ((es.drop idx).take len).flatten us0 ∧ (Builtin.firstCells r.sz len (.slice (some ⟨b, o, none⟩) len c)).run P w.drew = .ok us0.toArray w.drew := by
                      have he : elemsOf σ (.lsl id r.sz idx len cap) = some ((es.drop idx).take len) := by simp only [elemsOf, ho, if_pos hle]
                      have hzz : ∀ e ∈ (es.drop idx).take len, e.length = r.sz := fun e he => hes e (List.mem_of_mem_drop (List.mem_of_mem_take he))
                      obtain ⟨us0, q1, _, q3⟩ := src_run (P := P) hs he hvs hzz
                      have hlen : ((es.drop idx).take len).length = len := by simp; omega
                      have := q3 len (by omega) w.drew rfl
                      rw [List.take_of_length_le (by rw [q1.1, flatten_length _ hzz, hlen]; exact Nat.le_refl _)] at this
                      exact ⟨us0, q1, this⟩
                    obtain ⟨us0, q1, q2⟩ := hold
                    have hzz : ∀ e ∈ (es.drop idx).take len, e.length = r.sz := fun e he => hes e (List.mem_of_mem_drop (List.mem_of_mem_take he))
                    have hlen : ((es.drop idx).take len).length = len := by simp; omega
                    split at h
                    · rename_i k
                      split at h
                      · rename_i hlt
                        cases h
                        obtain ⟨rfl, _⟩ := hk k rfl
                        exact grow_res (P := P) (ty := ty) hs (hn _ (Nat.le_refl _) (by simp [Store.push])) ht hu hd hsz hby hz h0 hb0 hzk' hzl' hx hvx hnz hzz hlen q1 q2 hlt hby' 0 (Nat.zero_le _)
                      · cases h
                    · split at h
                      · rename_i hro
                        cases h
                        by_cases hroom : len + new.length ≤ c
                        · obtain ⟨rfl, rfl⟩ := hab (by omega)
                          have hbig : (idx + len + new.length) * r.sz ≤ (idx + c) * r.sz := Nat.mul_le_mul_right _ (by omega)
                          have hend : r.sh + (idx + len) * r.sz + us.length ≤ arr.size := by
                            rw [hul, hp]
                            rw [Nat.add_mul] at hbig
                            omega
                          have hlg := laid_get hend
                          have hnl2 : ((es.drop idx).take len ++ new).length = len + new.length := by rw [List.length_append, hlen]
                          have hmulA : (idx + len) * r.sz = idx * r.sz + len * r.sz := Nat.add_mul _ _ _
                          obtain ⟨g, s⟩ := write_sound (id' := σ.next) (r' := ⟨r.block, r.sh + idx * r.sz, r.sz, len + new.length, r.phys⟩) (o' := .cells (ro - idx) ((es.drop idx).take len ++ new))
                            (σ' := (σ.kill id).push (.cells (ro - idx) ((es.drop idx).take len ++ new))) (arr' := laid arr (r.sh + (idx + len) * r.sz) us) hs hr ho hb (laid_size hend) (fun k hkF => by
                              rw [hlg, if_pos]
                              rcases Nat.lt_or_ge k (r.sh + (idx + len) * r.sz) with h | h
                              · exact h
                              · have : ro * r.sz ≤ (idx + len) * r.sz := Nat.mul_le_mul_right _ hro
                                exact absurd hkF (hF k (by omega))) rfl (.inr ⟨rfl, hn _ (Nat.le_refl _) (by simp [Store.push, Store.kill])⟩)
                            (fun i x e => by
                              replace e : (if i = σ.next then some (Obj.cells (ro - idx) ((es.drop idx).take len ++ new)) else if i = id then none else σ.objs i) = some x := e
                              by_cases hi : i = σ.next
                              · rw [if_pos hi] at e; cases e; exact .inl ⟨hi, rfl⟩
                              · rw [if_neg hi] at e
                                by_cases hi2 : i = id
                                · rw [if_pos hi2] at e; cases e
                                · rw [if_neg hi2] at e; exact .inr ⟨hi, hi2, e⟩) (by simp [Store.push, Store.kill]) (fun _ => by simp [Store.push, Store.kill]) (fun i hi => by
                              replace hi : σ.next + 1 ≤ i := hi
                              show (if i = σ.next then some (Obj.cells (ro - idx) ((es.drop idx).take len ++ new)) else if i = id then none else σ.objs i) = none
                              rw [if_neg (by omega)]
                              split
                              · rfl
                              · exact hs.new i (by omega))
                            (fun {ρ' w'} hnb hm => by
                              refine .cells _ _ _ ty0 hnb (by rw [laid_size hend, hp]) hnl2 (fun e he => ?_) ?_ (by show ro - idx ≤ len + new.length; omega) hz0 (fun k hk' => ?_) fun i e he j x hx' => ?_
                              · rcases List.mem_append.1 he with he | he
                                · exact hzz e he
                                · exact hnz e he
                              · show r.sh + idx * r.sz + (len + new.length) * r.sz ≤ r.phys
                                rw [← hp]
                                rw [hul] at hend
                                rw [Nat.add_mul] at hend ⊢
                                omega
                              · refine hF k (Nat.le_trans ?_ hk')
                                show r.sh + ro * r.sz ≤ r.sh + idx * r.sz + (ro - idx) * r.sz
                                have : ro * r.sz ≤ (idx + (ro - idx)) * r.sz := Nat.mul_le_mul_right _ (by omega)
                                rw [Nat.add_mul] at this
                                omega
                              · show ∃ v, (laid arr (r.sh + (idx + len) * r.sz) us)[r.sh + idx * r.sz + i * r.sz + j]? = some v ∧ _
                                rw [hlg]
                                have hj : j < r.sz := by
                                  have h1 := (List.getElem?_eq_some_iff.1 hx').1
                                  have : e.length = r.sz := by
                                    rcases List.mem_append.1 (List.mem_of_getElem? he) with he | he
                                    · exact hzz e he
                                    · exact hnz e he
                                  omega
                                rw [List.getElem?_append, hlen] at he
                                split at he
                                · rename_i hil
                                  have := mul_lt_of hil hj
                                  rw [if_pos (by omega)]
                                  rw [List.getElem?_take, if_pos hil, List.getElem?_drop] at he
                                  obtain ⟨v, e1, e2⟩ := hc _ e he j x hx'
                                  rw [Nat.add_mul, ← Nat.add_assoc] at e1
                                  exact ⟨v, e1, hm e2⟩
                                · rename_i hil
                                  have hin2 : i - len < new.length := (List.getElem?_eq_some_iff.1 he).1
                                  have e5 := mul_lt_of hin2 hj
                                  have e6 : (i - len) * r.sz = i * r.sz - len * r.sz := Nat.sub_mul _ _ _
                                  have e7 : len * r.sz ≤ i * r.sz := Nat.mul_le_mul_right _ (by omega)
                                  rw [if_neg (by omega), if_pos (by rw [hul]; omega)]
                                  obtain ⟨q, e1, e2⟩ := h1.get (flatten_get new hnz _ _ _ _ he hx')
                                  exact ⟨q, by rw [← e1]; congr 1; omega, hm e2⟩)
                          refine ⟨_, _, F, _, hroomRun hroom hend, g, s, ?_⟩
                          have := VR.lsl (ρ := ρ.put σ.next ⟨r.block, r.sh + idx * r.sz, r.sz, len + new.length, r.phys⟩) (F := F) (w := w.setRow r.block (laid arr (r.sh + (idx + len) * r.sz) us)) σ.next 0 (len + new.length) none _ r.block (r.sh + idx * r.sz) c
                            (put_here _ _) (fun _ => ⟨rfl, by simp⟩) hroom (fun k hk => by cases hk) (fun _ => by simpa using hroom) (by show r.sh + idx * r.sz + (0 + c) * r.sz ≤ r.phys; rw [Nat.zero_add]; rw [Nat.add_mul] at hph; omega) (by simp)
                          exact this
                        · have hvx' := hvx
                          have hx2 : elemsOf (σ.kill id) x = some new ∨ True := .inr trivial
                          obtain ⟨i2, hi2, hisz2⟩ := szOf_info hsz
                          obtain ⟨i', zv, hi', hzv, hzeq⟩ := zeroOf_spec hz
                          rw [hi2] at hi'
                          cases hi'
                          have hby2 : i2.bytes = by_ := by unfold byOf at hby; rw [hi2] at hby; simpa using hby
                          have hnew := h3 new.length (Nat.le_refl _) w.drew rfl
                          rw [hfull, ← hisz2] at hnew
                          rw [← hisz2] at q2
                          have hrun := grow_run (P := P) (w := w) (ty := ty) ht hu hd hi2 hzv h2 hnew q2 (by omega) (by rw [hby2]; exact hb0) (by rw [hby2]; exact hby')
                          have hcap : len + new.length ≤ grownCap w (len + new.length) c el := grownCap_ge w _ _ _
                          subst hzeq
                          have hzs : zv.cells.size = r.sz := by have := ((zero_vr (ρ := ρ) (F := F) (w := w) zv).cells hzk').1; simp at this; omega
                          have hall2 : ∀ e ∈ (es.drop idx).take len ++ new, e.length = r.sz := fun e he => by
                            rcases List.mem_append.1 he with he | he
                            · exact hzz e he
                            · exact hnz e he
                          have hvr : VRs ρ F w ((es.drop idx).take len ++ new).flatten (us0 ++ us) := by rw [List.flatten_append]; exact q1.append h1
                          have hf := Flat.of_vrs (rest := (Builtin.zeroCells zv.cells (grownCap w (len + new.length) c el - (len + new.length))).toList) hall2 hvr
                          have hl : (us0 ++ us).length = (len + new.length) * r.sz := by rw [hvr.1, flatten_length _ hall2, List.length_append, hlen]
                          obtain ⟨ρ', g, s, hv⟩ := newRow_res (w1 := w.drew.alloc (.cells (us0 ++ us ++ (Builtin.zeroCells zv.cells (grownCap w (len + new.length) c el - (len + new.length))).toList).toArray el)) (hs.kill id) (hn _ (Nat.le_refl _) (by simp [Store.push, Store.kill])) rfl rfl rfl rfl
                            (ro - idx) (by rw [List.length_append, hlen]; omega) h0 hf (len + new.length) (grownCap w (len + new.length) c el) none (by rw [List.length_append, hlen]; exact Nat.le_refl _) hcap (fun k hk => by cases hk) (fun _ => by rw [List.length_append, hlen]; exact hcap) (by
                              have e9 : (Builtin.zeroCells zv.cells (grownCap w (len + new.length) c el - (len + new.length))).toList.length = (grownCap w (len + new.length) c el - (len + new.length)) * r.sz := by simp [size_zeroCells, hzs]
                              rw [List.size_toArray, List.length_append, hl, e9, ← Nat.add_mul]
                              exact Nat.mul_le_mul_right _ (by omega))
                          exact ⟨_, ρ', F, _, hrun, (Go1.kill id).trans g, s, hv⟩
                      · cases h
                  · cases h
                · cases h
            · cases h
      · cases h

end
end Go.Pvm
