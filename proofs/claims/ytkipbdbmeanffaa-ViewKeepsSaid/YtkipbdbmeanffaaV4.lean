/- Part of the proof: what is laid new, what is written, and that all else stays. -/
import Derived.Test.YtkipbdbmeanffaaV3
import Derived.Laws.BytesArg
set_option linter.unusedSimpArgs false
namespace Go.Pvm
section
variable {P : Program} {ρ : Where} {F : Froz} {w : World} {σ : Store}

/-! ### Rows of elements as rows of cells -/
theorem CellsAt.append {b o : Nat} {cs ds : List PV} (h : CellsAt ρ F w b o cs) (k : CellsAt ρ F w b (o + cs.length) ds) : CellsAt ρ F w b o (cs ++ ds) := fun i x e => by
  rw [List.getElem?_append] at e
  split at e
  · exact h i x e
  · rename_i hi
    obtain ⟨v, h1, h2⟩ := k _ x e
    refine ⟨v, ?_, h2⟩
    rw [← h1]
    congr 2
    omega
theorem CellsAt.flatten {b sz : Nat} : ∀ (es : List (List PV)) (o : Nat), (∀ e ∈ es, e.length = sz) → (∀ (i : Nat) (e : List PV), es[i]? = some e → CellsAt ρ F w b (o + i * sz) e) → CellsAt ρ F w b o es.flatten
  | [], o, _, _ => fun i x e => by simp at e
  | e :: r, o, hs, hc => by
    rw [List.flatten_cons]
    have h0 := hc 0 e rfl
    simp only [Nat.zero_mul, Nat.add_zero] at h0
    refine h0.append ?_
    have he : e.length = sz := hs e (by simp)
    rw [he]
    exact CellsAt.flatten r (o + sz) (fun x hx => hs x (by simp [hx])) (fun i x hx => by
      have := hc (i + 1) x (by simpa using hx)
      rwa [show o + (i + 1) * sz = o + sz + i * sz by rw [Nat.add_mul]; omega] at this)

theorem flatten_get {α : Type} {sz : Nat} : ∀ (es : List (List α)), (∀ e ∈ es, e.length = sz) → ∀ (i j : Nat) (e : List α) (x : α), es[i]? = some e → e[j]? = some x → es.flatten[i * sz + j]? = some x
  | [], _, i, j, e, x, h, _ => by simp at h
  | e0 :: r, hs, i, j, e, x, h, hx => by
    have h0 : e0.length = sz := hs e0 (by simp)
    rw [List.flatten_cons]
    cases i with
    | zero =>
      simp at h; subst h
      have : j < e0.length := (List.getElem?_eq_some_iff.1 hx).1
      rw [Nat.zero_mul, Nat.zero_add, List.getElem?_append_left this]
      exact hx
    | succ i =>
      rw [List.getElem?_append_right (by rw [h0, Nat.add_mul]; omega), h0, show (i + 1) * sz + j - sz = i * sz + j by rw [Nat.add_mul]; omega]
      exact flatten_get r (fun x hx => hs x (by simp [hx])) i j e x (by simpa using h) hx
theorem flatten_length {α : Type} {sz : Nat} : ∀ (es : List (List α)), (∀ e ∈ es, e.length = sz) → es.flatten.length = es.length * sz
  | [], _ => by simp
  | e :: r, hs => by
    rw [List.flatten_cons, List.length_append, hs e (by simp), flatten_length r (fun x hx => hs x (by simp [hx])), List.length_cons, Nat.add_mul]
    omega

theorem all1_spec {sz : Nat} {es : List (List PV)} (h : all1 sz es = true) : (∀ e ∈ es, e.length = sz) ∧ ∀ e ∈ es, ∀ x ∈ e, x.one = true := by
  simp only [all1, List.all_eq_true, Bool.and_eq_true, beq_iff_eq] at h
  exact ⟨fun e he => (h e he).1, fun e he x hx => (h e he).2 x hx⟩

/-- A slice's elements, as they stand. -/
theorem elems_run {x : PV} {es : List (List PV)} (h : elemsOf σ x = some es) (hns : ∀ s, x ≠ .str s) (hs : SR ρ F σ w) {c : Value} (hx : VR ρ F w x c) {sz : Nat} (hz : ∀ e ∈ es, e.length = sz) :
    ∃ a k us, c = .slice a es.length k ∧ VRs ρ F w es.flatten us ∧ (0 < es.length → ∃ b o, a = some ⟨b, o, none⟩ ∧ ∀ (j : Nat) (v : Value), us[j]? = some v → w.cell? ⟨b, o + j, none⟩ = some v) := by
  unfold elemsOf at h
  split at h
  · cases h
    obtain rfl := hx.nilsl_inv
    exact ⟨none, 0, [], rfl, .nil, fun h => by simp at h⟩
  · cases h
    obtain ⟨sz', b, o, sp, k, rfl, hs', hc, hf, hcell, hsp⟩ := hx.psl_inv
    have hca : CellsAt ρ F w b o es.flatten := CellsAt.flatten (sz := sz') es o hs' fun i e he => VP.cellsAt fun j x hx => hcell i e he j x hx
    obtain ⟨us, h1, h2⟩ := hca.list
    exact ⟨_, k, us, rfl, h1, fun hpos => ⟨b, o, by rw [hsp (by omega)], h2⟩⟩
  · rename_i id sz' idx len cap
    split at h
    · rename_i ro es0 ho
      split at h
      · rename_i hle
        cases h
        obtain ⟨r, b, o, k, hr, rfl, rfl, ha, hl, _, _, _⟩ := hx.lsl_inv
        have hO := hs.obj id r _ hr ho
        obtain ⟨arr, ty, hb, hp, hn, hsz, hfit, hro, hz0, hF, hc⟩ := hO.cells_inv
        have hlen : ((es0.drop idx).take len).length = len := by simp; omega
        rcases Nat.eq_zero_or_pos len with h0 | h0
        · subst h0
          exact ⟨some ⟨b, o, none⟩, k, [], by simp, by simpa using VRs.nil, fun h => by simp at h⟩
        · obtain ⟨rfl, rfl⟩ := ha (by omega)
          have hca : CellsAt ρ F w r.block (r.sh + idx * r.sz) ((es0.drop idx).take len).flatten := by
            refine CellsAt.flatten (sz := r.sz) _ _ (fun e he => hsz e (List.mem_of_mem_drop (List.mem_of_mem_take he))) fun i e he => ?_
            rw [List.getElem?_take] at he
            split at he
            · rw [List.getElem?_drop] at he
              have := hO.elem he
              rwa [Nat.add_mul, ← Nat.add_assoc] at this
            · cases he
          obtain ⟨us, h1, h2⟩ := hca.list
          refine ⟨some ⟨r.block, r.sh + idx * r.sz, none⟩, k, us, by rw [hlen], h1, fun _ => ⟨r.block, r.sh + idx * r.sz, rfl, h2⟩⟩
      · cases h
    · cases h
  · exact absurd rfl (hns _)
  · cases h

/-! ### The store in memory: less of it, and memory that is alike -/
theorem SR.heap {w' : World} (h : SR ρ F σ w) (hh : w'.heap = w.heap) : SR ρ F σ w' := by
  have hc : ∀ b o, F b o → w'.cell? ⟨b, o, none⟩ = w.cell? ⟨b, o, none⟩ := fun b o _ => by simp [World.cell?, hh]
  refine ⟨fun id r o hr ho => ?_, h.apart, fun b o hF => by rw [hh]; exact h.old b o hF, h.new⟩
  cases h.obj id r o hr ho with
  | cells ro es arr ty hb hp hn hs hf hro hz hF hcs =>
    exact .cells ro es arr ty (by rw [hh]; exact hb) hp hn hs hf hro hz hF fun i e he j x hx => let ⟨v, h1, h2⟩ := hcs i e he j x hx; ⟨v, h1, h2.mono (fun _ _ e => e) (fun _ _ e => e) hc⟩
theorem Go1.heap {w' : World} (hh : w'.heap = w.heap) (h1 : w'.os = w.os) (h2 : w'.tape = w.tape) (h3 : w'.output = w.output) : Go1 ρ F σ w ρ F σ w' :=
  ⟨fun _ _ h => h, fun _ _ h h' => absurd (h.symm.trans h') (by simp), Nat.le_refl _, fun _ _ h => h, fun b o _ => by simp [World.cell?, hh], by rw [hh]; exact Nat.le_refl _, fun b _ _ => by rw [hh], fun _ _ h => .inl h, fun _ h => .inr h, h1, h2, h3⟩

theorem SR.kill (h : SR ρ F σ w) (id : Nat) : SR ρ F (σ.kill id) w := by
  have sub : ∀ i o, (σ.kill id).objs i = some o → σ.objs i = some o := fun i o e => by
    simp only [Store.kill] at e
    split at e
    · cases e
    · exact e
  exact ⟨fun i r o hr ho => h.obj i r o hr (sub i o ho), fun i j r r' o o' a b c d => h.apart i j r r' o o' a (sub _ _ b) c (sub _ _ d), h.old, fun i hi => by
    simp only [Store.kill]
    split
    · rfl
    · exact h.new i hi⟩
theorem Go1.kill (id : Nat) : Go1 ρ F σ w ρ F (σ.kill id) w :=
  ⟨fun _ _ h => h, fun _ _ h h' => absurd (h.symm.trans h') (by simp), Nat.le_refl _, fun _ _ h => h, fun _ _ _ => rfl, Nat.le_refl _, fun _ _ _ => rfl, fun _ _ h => .inl h, fun b ⟨i, r, o, h1, h2, h3⟩ => .inr ⟨i, r, o, h1, by
    simp only [Store.kill] at h2
    split at h2
    · cases h2
    · exact h2, h3⟩, rfl, rfl, rfl⟩

def Where.put (ρ : Where) (id : Nat) (r : Rec) : Where := fun i => if i = id then some r else ρ i

/-! ### A new block -/
/-- Elements laid into a new block. -/
theorem push_sound (hs : SR ρ F σ w) {w1 : World} {arr : Array Value} {ty : TypeId} (hh : w1.heap = w.heap.push (.cells arr ty)) (h1 : w1.os = w.os) (h2 : w1.tape = w.tape) (h3 : w1.output = w.output)
    (hn : ρ σ.next = none) {sz : Nat} {es : List (List PV)} (ro : Nat) (hro : ro ≤ es.length) (hz : 0 < sz) (hes : ∀ e ∈ es, e.length = sz) (hfit : es.length * sz ≤ arr.size)
    (hc : ∀ (i : Nat) (e : List PV), es[i]? = some e → ∀ (j : Nat) (x : PV), e[j]? = some x → ∃ v, arr[i * sz + j]? = some v ∧ VR ρ F w x v) :
    Go1 ρ F σ w (ρ.put σ.next ⟨w.heap.size, 0, sz, es.length, arr.size⟩) F (σ.push (.cells ro es)) w1 ∧
    SR (ρ.put σ.next ⟨w.heap.size, 0, sz, es.length, arr.size⟩) F (σ.push (.cells ro es)) w1 := by
  generalize hr0 : (⟨w.heap.size, 0, sz, es.length, arr.size⟩ : Rec) = r0
  have hold : ∀ b, b < w.heap.size → w1.heap[b]? = w.heap[b]? := fun b hb => by rw [hh, Array.getElem?_push]; simp [Nat.ne_of_lt hb]
  have hnew : w1.heap[w.heap.size]? = some (.cells arr ty (0, 0)) := by rw [hh]; simp
  have hcell : ∀ b o, F b o → w1.cell? ⟨b, o, none⟩ = w.cell? ⟨b, o, none⟩ := fun b o hF => by simp [World.cell?, hold b (hs.old b o hF)]
  have hrec : ∀ id r, ρ id = some r → ρ.put σ.next r0 id = some r := fun id r hr => by
    unfold Where.put
    rw [if_neg (by rintro rfl; rw [hn] at hr; cases hr)]
    exact hr
  have hput : ∀ id r, ρ.put σ.next r0 id = some r → (id = σ.next ∧ r = r0) ∨ (id ≠ σ.next ∧ ρ id = some r) := fun id r e => by
    unfold Where.put at e
    split at e
    · cases e; exact .inl ⟨by assumption, rfl⟩
    · exact .inr ⟨by assumption, e⟩
  have hobj : ∀ id o, (σ.push (.cells ro es)).objs id = some o → (id = σ.next ∧ o = .cells ro es) ∨ (id ≠ σ.next ∧ σ.objs id = some o) := fun id o e => by
    simp only [Store.push] at e
    split at e
    · cases e; exact .inl ⟨by assumption, rfl⟩
    · exact .inr ⟨by assumption, e⟩
  have hblk : ∀ id r o, ρ id = some r → σ.objs id = some o → r.block < w.heap.size := fun id r o hr ho => by
    cases hs.obj id r o hr ho with
    | cells ro es arr ty hb => exact (Array.getElem?_eq_some_iff.1 hb).1
  have hmono : ∀ {v : PV} {c : Value}, VR ρ F w v c → VR (ρ.put σ.next r0) F w1 v c := fun h => h.mono hrec (fun _ _ e => e) hcell
  have hGo : Go1 ρ F σ w (ρ.put σ.next r0) F (σ.push (.cells ro es)) w1 := by
    refine ⟨hrec, fun id r e e0 => ?_, by simp [Store.push], fun _ _ e => e, hcell, by rw [hh]; simp, fun b hb _ => hold b hb, fun _ _ e => .inl e, fun b hl => ?_, h1, h2, h3⟩
    · rcases hput id r e with ⟨rfl, _⟩ | ⟨_, e1⟩
      · simp [Store.push]
      · rw [e0] at e1; cases e1
    · obtain ⟨id, r, o, e1, e2, rfl⟩ := hl
      rcases hput id r e1 with ⟨rfl, rfl⟩ | ⟨hne, e1⟩
      · subst hr0; exact .inl (Nat.le_refl _)
      · rcases hobj id o e2 with ⟨rfl, _⟩ | ⟨_, e2⟩
        · exact absurd rfl hne
        · exact .inr ⟨id, r, o, e1, e2, rfl⟩
  refine ⟨hGo, fun id r o e1 e2 => ?_, fun id id' r r' o o' e1 e2 e3 e4 hne => ?_, fun b o hF => Nat.lt_of_lt_of_le (hs.old b o hF) hGo.size, fun id hid => ?_⟩
  · rcases hput id r e1 with ⟨rfl, rfl⟩ | ⟨hne, e1⟩
    · rcases hobj _ o e2 with ⟨_, rfl⟩ | ⟨hne, _⟩
      · subst hr0
        refine .cells ro es arr ty hnew rfl rfl hes (by simpa using hfit) hro hz (fun o _ hF => ?_) fun i e he j x hx => ?_
        · exact Nat.lt_irrefl _ (hs.old _ _ hF)
        · obtain ⟨v, e3, e4⟩ := hc i e he j x hx
          exact ⟨v, by simpa using e3, hmono e4⟩
      · exact absurd rfl hne
    · rcases hobj id o e2 with ⟨rfl, _⟩ | ⟨_, e2⟩
      · exact absurd rfl hne
      · cases hs.obj id r o e1 e2 with
        | cells ro es' arr' ty' hb hp hn' hs' hf hro hz' hF hcs =>
          exact .cells ro es' arr' ty' (by rw [hold _ (Array.getElem?_eq_some_iff.1 hb).1]; exact hb) hp hn' hs' hf hro hz' hF fun i e he j x hx => let ⟨v, e3, e4⟩ := hcs i e he j x hx; ⟨v, e3, hmono e4⟩
  · rcases hput id r e1 with ⟨rfl, rfl⟩ | ⟨hn1, _⟩
    · rcases hput id' r' e3 with ⟨rfl, _⟩ | ⟨hn2, e3⟩
      · exact absurd rfl hne
      · rcases hobj id' o' e4 with ⟨rfl, _⟩ | ⟨_, e4⟩
        · exact absurd rfl hn2
        · have := hblk _ _ _ e3 e4
          subst hr0
          exact fun e => by simp only at e; omega
    · rename_i e1
      rcases hobj id o e2 with ⟨rfl, _⟩ | ⟨_, e2⟩
      · exact absurd rfl hn1
      · have hlt := hblk _ _ _ e1 e2
        rcases hput id' r' e3 with ⟨rfl, rfl⟩ | ⟨hn2, e3⟩
        · subst hr0
          exact fun e => by simp only at e; omega
        · rcases hobj id' o' e4 with ⟨rfl, _⟩ | ⟨_, e4⟩
          · exact absurd rfl hn2
          · exact hs.apart id id' r r' o o' e1 e2 e3 e4 hne
  · simp only [Store.push] at hid ⊢
    rw [if_neg (by omega)]
    exact hs.new id (by omega)

/-! ### A block that is written -/
/-- The block of one object gets other cells, its frozen ones not; the object is another one, or one that takes its place. -/
theorem write_sound (hs : SR ρ F σ w) {id : Nat} {r : Rec} {o : Obj} (hr : ρ id = some r) (ho : σ.objs id = some o) {arr arr' : Array Value} {ty : TypeId} (hb : w.heap[r.block]? = some (.cells arr ty (0, 0)))
    (_hsz : arr'.size = arr.size) (hfro : ∀ k, F r.block k → arr'[k]? = arr[k]?)
    {id' : Nat} {r' : Rec} {o' : Obj} (hblk : r'.block = r.block) (hcase : (id' = id ∧ r' = r) ∨ (id' = σ.next ∧ ρ σ.next = none))
    {σ' : Store} (hσ : ∀ i x, σ'.objs i = some x → (i = id' ∧ x = o') ∨ (i ≠ id' ∧ i ≠ id ∧ σ.objs i = some x)) (hnx : σ.next ≤ σ'.next) (hid' : id' = σ.next → σ.next < σ'.next)
    (hnew : ∀ i, σ'.next ≤ i → σ'.objs i = none)
    (hor : ∀ {ρ' : Where} {w' : World}, w'.heap[r.block]? = some (.cells arr' ty (0, 0)) → (∀ {v : PV} {c : Value}, VR ρ F w v c → VR ρ' F w' v c) → OR ρ' F w' r' o') :
    Go1 ρ F σ w (ρ.put id' r') F σ' (w.setRow r.block arr') ∧ SR (ρ.put id' r') F σ' (w.setRow r.block arr') := by
  have hnewb := setRow_heap w r.block arr arr' ty (0, 0) hb
  have hoth : ∀ b, b ≠ r.block → (w.setRow r.block arr').heap[b]? = w.heap[b]? := fun b hne => setRow_other w r.block b arr' hne
  have hcell : ∀ b k, F b k → (w.setRow r.block arr').cell? ⟨b, k, none⟩ = w.cell? ⟨b, k, none⟩ := fun b k hF => by
    by_cases hbb : b = r.block
    · subst hbb
      simp [World.cell?, hnewb, hb, hfro k hF]
    · simp [World.cell?, hoth b hbb]
  have hrec : ∀ i q, ρ i = some q → ρ.put id' r' i = some q := fun i q e => by
    unfold Where.put
    split
    · rename_i hi
      subst hi
      rcases hcase with ⟨rfl, rfl⟩ | ⟨rfl, hn⟩
      · rw [← hr]; exact e
      · rw [hn] at e; cases e
    · exact e
  have hput : ∀ i q, ρ.put id' r' i = some q → (i = id' ∧ q = r') ∨ (i ≠ id' ∧ ρ i = some q) := fun i q e => by
    unfold Where.put at e
    split at e
    · cases e; exact .inl ⟨by assumption, rfl⟩
    · exact .inr ⟨by assumption, e⟩
  have hmono : ∀ {v : PV} {c : Value}, VR ρ F w v c → VR (ρ.put id' r') F (w.setRow r.block arr') v c := fun h => h.mono hrec (fun _ _ e => e) hcell
  have hlive : Lv ρ σ r.block := ⟨id, r, o, hr, ho, rfl⟩
  have hGo : Go1 ρ F σ w (ρ.put id' r') F σ' (w.setRow r.block arr') := by
    refine ⟨hrec, fun i q e e0 => ?_, hnx, fun _ _ e => e, hcell, by simp, fun b _ hl => hoth b (fun e => hl (e ▸ hlive)), fun _ _ e => .inl e, fun b hl => ?_, rfl, rfl, rfl⟩
    · rcases hput i q e with ⟨rfl, _⟩ | ⟨_, e1⟩
      · rcases hcase with ⟨rfl, _⟩ | ⟨rfl, _⟩
        · rw [hr] at e0; cases e0
        · exact ⟨Nat.le_refl _, hid' rfl⟩
      · rw [e0] at e1; cases e1
    · obtain ⟨i, q, x, e1, e2, rfl⟩ := hl
      rcases hput i q e1 with ⟨rfl, rfl⟩ | ⟨hne, e1⟩
      · rw [hblk]; exact .inr hlive
      · rcases hσ i x e2 with ⟨rfl, _⟩ | ⟨_, _, e2⟩
        · exact absurd rfl hne
        · exact .inr ⟨i, q, x, e1, e2, rfl⟩
  refine ⟨hGo, fun i q x e1 e2 => ?_, fun i j q q' x x' e1 e2 e3 e4 hne => ?_, fun b k hF => by simpa using hs.old b k hF, hnew⟩
  · rcases hput i q e1 with ⟨rfl, rfl⟩ | ⟨hne, e1⟩
    · rcases hσ _ x e2 with ⟨_, rfl⟩ | ⟨hne, _⟩
      · exact hor hnewb hmono
      · exact absurd rfl hne
    · rcases hσ i x e2 with ⟨rfl, _⟩ | ⟨_, hni, e2⟩
      · exact absurd rfl hne
      · have hnb : q.block ≠ r.block := hs.apart i id q r x o e1 e2 hr ho hni
        cases hs.obj i q x e1 e2 with
        | cells ro es' arr2 ty' hb' hp hn' hs' hf hro hz' hF hcs =>
          exact .cells ro es' arr2 ty' (by rw [hoth _ hnb]; exact hb') hp hn' hs' hf hro hz' hF fun i e he j x hx => let ⟨v, e3, e4⟩ := hcs i e he j x hx; ⟨v, e3, hmono e4⟩
  · rcases hput i q e1 with ⟨rfl, rfl⟩ | ⟨hn1, e1⟩
    · rcases hput j q' e3 with ⟨rfl, _⟩ | ⟨hn2, e3⟩
      · exact absurd rfl hne
      · rcases hσ j x' e4 with ⟨rfl, _⟩ | ⟨_, hni, e4⟩
        · exact absurd rfl hn2
        · rw [hblk]; exact (hs.apart j id q' r x' o e3 e4 hr ho hni).symm
    · rcases hσ i x e2 with ⟨rfl, _⟩ | ⟨_, hni, e2⟩
      · exact absurd rfl hn1
      · have hap := hs.apart i id q r x o e1 e2 hr ho hni
        rcases hput j q' e3 with ⟨rfl, rfl⟩ | ⟨hn2, e3⟩
        · rw [hblk]; exact hap
        · rcases hσ j x' e4 with ⟨rfl, _⟩ | ⟨_, _, e4⟩
          · exact absurd rfl hn2
          · exact hs.apart i j q q' x x' e1 e2 e3 e4 hne

theorem Where.put_self {id : Nat} {r : Rec} (h : ρ id = some r) : ρ.put id r = ρ := by
  funext i
  unfold Where.put
  split
  · rename_i e; rw [e, h]
  · rfl

end
end Go.Pvm
