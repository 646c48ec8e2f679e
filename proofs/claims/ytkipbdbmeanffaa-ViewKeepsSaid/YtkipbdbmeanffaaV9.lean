/- Part of the proof: 'copy', 'clear', conversions, cuts and the other builtins. -/
import Derived.Test.YtkipbdbmeanffaaV8
set_option linter.unusedSimpArgs false
set_option linter.unusedVariables false
namespace Go.Pvm
section
variable {P : Program} {ρ : Where} {F : Froz} {w : World} {σ : Store}

/-- Elements of a live slice are written. -/
theorem fillEls_run (hs : SR ρ F σ w) {id idx len : Nat} {ro : Nat} {es new : List (List PV)} {r : Rec} {b o c : Nat} (hr : ρ id = some r) (ho : σ.objs id = some (.cells ro es)) (hab : c ≠ 0 → b = r.block ∧ o = r.sh + idx * r.sz) (hlc : len ≤ c)
    (hnl : new.length ≤ len) (hle : idx + len ≤ es.length) (hro : ro ≤ idx) {us : List Value} (hnz : ∀ e ∈ new, e.length = r.sz) (hone : ∀ e ∈ new, ∀ x ∈ e, x.one = true) (hus : VRs ρ F w new.flatten us) :
    ∃ w', (storeCells ⟨b, o, none⟩ us).run P w = .ok () w' ∧ Go1 ρ F σ w ρ F (σ.put id (.cells ro (setEls es idx new))) w' ∧ SR ρ F (σ.put id (.cells ro (setEls es idx new))) w' := by
  obtain ⟨arr, ty, hb, hp, hnn, hes, hfit, hrn, hz0, hF, hc⟩ := (hs.obj id r _ hr ho).cells_inv
  obtain ⟨hend, g, s⟩ := setEls_sound hs hr ho (idx := idx) (new := new) hnz hus (by omega) hro hb
  rcases Nat.eq_zero_or_pos us.length with h0 | h0
  · obtain rfl : us = [] := List.length_eq_zero_iff.1 h0
    have hl : laid arr (r.sh + idx * r.sz) [] = arr := by unfold laid; simp
    rw [hl, setRow_self w r.block arr ty (0, 0) hb] at g s
    exact ⟨w, by simp [storeCells], g, s⟩
  · have hul : us.length = new.length * r.sz := by rw [hus.1, flatten_length new hnz]
    have hn0 : 0 < new.length := by
      rcases Nat.eq_zero_or_pos new.length with h | h
      · rw [h] at hul; omega
      · exact h
    obtain ⟨rfl, rfl⟩ := hab (by omega)
    have hst := run_storeCells_at P r.block (r.sh + idx * r.sz) ty us 0 arr w hb (by simpa using hend) (all_one hus fun x hx => by
      obtain ⟨e, he, hxe⟩ := List.mem_flatten.1 hx
      exact hone e he x hxe)
    exact ⟨_, hst, g, s⟩

theorem copy_res (hs : SR ρ F σ w) {t u ty el : TypeId} (ht : P.underlying t = some (.slice el)) {d s v : PV} {σ' : Store} (h : copyv P σ el d s = some (v, σ')) {cd cs : Value} (hvd : VR ρ F w d cd) (hvs : VR ρ F w s cs) :
    Res P ρ F σ w σ' v (Builtin.copy_ #[t, u] ty #[cd, cs]) := by
  unfold copyv at h
  simp only [Option.bind_eq_some_iff] at h
  obtain ⟨sz, hsz, src, hx, h⟩ := h
  split at h
  · cases h
  · rename_i h0
    split at h
    · split at h
      · rename_i hall
        cases h
        obtain rfl := hvd.nilsl_inv
        obtain ⟨hnz, hone⟩ := all1_spec hall
        obtain ⟨us, h1, h2, h3⟩ := src_run (P := P) hs hx hvs hnz
        have hf := h3 0 (Nat.zero_le _) w rfl
        simp only [Nat.zero_mul, List.take_zero] at hf
        refine .read hs ⟨.int .i64 0, ?_, .pure (.int _ _)⟩
        have hm : Nat.min src.length 0 = 0 := Nat.min_zero _
        simp [Builtin.copy_, run_underlying ht, run_szOf hsz, h2, hm, hf, goInt]
      · cases h
    · rename_i id sz' idx len cap
      split at h
      · cases h
      · rename_i hzz
        have hzz' : sz' = sz := by simpa using hzz
        split at h
        · rename_i ro es ho
          split at h
          · rename_i hh
            obtain ⟨hle, hro⟩ := hh
            split at h
            · rename_i hall
              cases h
              obtain ⟨r, b, o, c, hr, hrs, rfl, hab, hlc, hk, hkn, hph, hinn⟩ := hvd.lsl_inv
              obtain ⟨hnz, hone⟩ := all1_spec hall
              have hrz : r.sz = sz := by rw [← hrs, hzz']
              subst hrz
              obtain ⟨us, h1, h2, h3⟩ := src_run (P := P) hs hx hvs hnz
              have hft : ∀ (l : List (List PV)), (∀ e ∈ l, e.length = r.sz) → ∀ m, (l.take m).flatten = l.flatten.take (Nat.min l.length m * r.sz) := by
                intro l hl m
                have e1 : l.flatten = (l.take m).flatten ++ (l.drop m).flatten := by rw [← List.flatten_append, List.take_append_drop]
                have e2 : (l.take m).flatten.length = Nat.min l.length m * r.sz := by
                  rw [flatten_length _ (fun e he => hl e (List.mem_of_mem_take he)), List.length_take, Nat.min_comm]
                rw [e1, ← e2, List.take_left]
              have hus : VRs ρ F w (src.take len).flatten (us.take (Nat.min src.length len * r.sz)) := by rw [hft _ hnz]; exact h1.take _
              obtain ⟨w', e1, g, s⟩ := fillEls_run (P := P) hs hr ho hab hlc (new := src.take len) (by simp; omega) hle hro (fun e he => hnz e (List.mem_of_mem_take he)) (fun e he => hone e (List.mem_of_mem_take he)) hus
              refine ⟨.int .i64 ((Nat.min src.length len : Nat) : Int), ρ, F, w', ?_, g, s, .pure (.int _ _)⟩
              have hf := h3 _ (Nat.min_le_left src.length len) w rfl
              simp [Builtin.copy_, run_underlying ht, run_szOf hsz, h2, hf, e1, goInt]
            · cases h
          · cases h
        · cases h
    · cases h

theorem clear_res (hs : SR ρ F σ w) {t ty el : TypeId} (ht : P.underlying t = some (.slice el)) {d v : PV} {σ' : Store} (h : clearv P σ el d = some (v, σ')) {cd : Value} (hvd : VR ρ F w d cd) :
    Res P ρ F σ w σ' v (Builtin.clear_ #[t] ty #[cd]) := by
  unfold clearv at h
  simp only [Option.bind_eq_some_iff] at h
  obtain ⟨sz, hsz, z, hz, h⟩ := h
  have hvt : ∀ {ρ' : Where} {F' : Froz} {w' : World}, VR ρ' F' w' (.tuple []) (.tuple #[]) := fun {ρ' F' w'} => .pure (.tuple [] [] (fun _ => .nilFunc) rfl (fun i c e => by simp at e) (fun i c e => by simp at e))
  split at h
  · cases h
  · rename_i hh
    simp only [not_or] at hh
    obtain ⟨h0, hk, hl, h1⟩ := hh
    obtain ⟨i, zv, hi, hzv, rfl⟩ := zeroOf_spec hz
    split at h
    · cases h
      obtain rfl := hvd.nilsl_inv
      exact .read hs ⟨.tuple #[], by simp [Builtin.clear_, run_underlying ht], hvt⟩
    · rename_i id sz' idx len cap
      split at h
      · cases h
      · rename_i hzz
        have hzz' : sz' = sz := by simpa using hzz
        split at h
        · rename_i ro es ho
          split at h
          · rename_i hh
            obtain ⟨hle, hro⟩ := hh
            cases h
            obtain ⟨r, b, o, c, hr, hrs, rfl, hab, hlc, hkk, hkn, hph, hinn⟩ := hvd.lsl_inv
            have hrz : r.sz = sz := by rw [← hrs, hzz']
            subst hrz
            have hz0 := (zero_vr (ρ := ρ) (F := F) (w := w) zv).cells (by simpa using hk)
            have hl' : (ofValue zv).cells.length = r.sz := by simpa using hl
            have hzs : zv.cells.size = r.sz := by have := hz0.1; simp at this; omega
            have hf := Flat.replicate (n := len) hz0 hl' h0
            have hv := hf.vrs (by omega) (by simp)
            have h1' : ∀ x ∈ (ofValue zv).cells, x.one = true := by simpa [List.all_eq_true] using h1
            obtain ⟨w', e1, g, s⟩ := fillEls_run (P := P) hs hr ho hab hlc (new := List.replicate len (ofValue zv).cells) (by simp) hle hro (fun e he => by rw [List.eq_of_mem_replicate he]; exact hl') (fun e he => by rw [List.eq_of_mem_replicate he]; exact h1') hv
            have e2 : setEls es idx (List.replicate len (ofValue zv).cells) = es.take idx ++ List.replicate len (ofValue zv).cells ++ es.drop (idx + len) := by unfold setEls; simp
            rw [e2] at g s
            refine ⟨.tuple #[], ρ, F, w', ?_, g, s, hvt⟩
            rcases Nat.eq_zero_or_pos len with hq | hq
            · subst hq
              simp [storeCells, range0] at e1
              subst e1
              simp [Builtin.clear_, run_underlying ht]
            · have hne : len ≠ 0 := by omega
              obtain ⟨m, rfl⟩ : ∃ m, len = m + 1 := ⟨len - 1, by omega⟩
              have e3 : (Builtin.zeroCells zv.cells (m + 1)).toList = ((Array.range ((m + 1) * r.sz)).map (zv.cells[· % zv.cells.size]!)).toList := by rw [Builtin.zeroCells, hzs]
              have e4 := run_zeroValue (P := P) hi hzv w
              simp only [Array.toList_map, Array.toList_range] at e1 e3
              simp [Builtin.clear_, run_underlying ht, e4, e3, e1]
          · cases h
        · cases h
    · cases h

/-! ### Conversions -/
theorem bytes_of {es : List (List PV)} {l : List UInt8} (h : bytesOf es = some l) : ∃ xs : List Int, es = xs.map (fun n => [PV.int .u8 n]) ∧ l = xs.map fun n => UInt8.ofNat n.toNat := by
  induction es generalizing l with
  | nil => simp [bytesOf] at h; subst h; exact ⟨[], rfl, rfl⟩
  | cons e r ih =>
    unfold bytesOf at h
    split at h
    · rename_i e1; cases e1
    · rename_i n r' e1
      cases e1
      rw [Option.map_eq_some_iff] at h
      obtain ⟨l', h1, rfl⟩ := h
      obtain ⟨xs, rfl, rfl⟩ := ih h1
      exact ⟨n :: xs, rfl, rfl⟩
    · cases h

theorem run_convv (hs : SR ρ F σ w) {src dst : TypeId} {x v : PV} (h : convv P σ src dst x = some v) {cx : Value} (hx : VR ρ F w x cx) : ∃ u, (convert src dst cx).run P w = .ok u w ∧ VR ρ F w v u := by
  unfold convv at h
  split at h
  · rename_i k' k kk n h1 h2
    cases h
    obtain rfl := hx.int_inv
    exact ⟨.int k (k.wrap n), by simp [convert, run_underlying h1, run_underlying h2, Conv.intToInt], .pure (.int _ _)⟩
  · rename_i s h1 h2
    cases h
    obtain rfl := hx.str_inv
    exact ⟨.string s, by simp [convert, run_underlying h1, run_underlying h2], .pure (.str _)⟩
  · rename_i y _ _ y0 e h1 h2
    split at h
    · rename_i he
      split at h
      · cases h
      · rename_i hns0
        simp only [Option.bind_eq_some_iff, Option.map_eq_some_iff] at h
        obtain ⟨es, hes, l, hl, rfl⟩ := h
        obtain ⟨xs, rfl, rfl⟩ := bytes_of hl
        have hnz : ∀ e ∈ xs.map (fun n => [PV.int .u8 n]), e.length = 1 := fun e he => by
          obtain ⟨n, _, rfl⟩ := List.mem_map.1 he; rfl
        have hns : ∀ s, y ≠ PV.str s := by
          rintro s rfl
          exact hns0 rfl
        obtain ⟨a, k, us, rfl, q1, q2⟩ := elems_run hes hns hs hx hnz
        have hfl : ∀ xs : List Int, (xs.map (fun n => [PV.int .u8 n])).flatten = xs.map (PV.int .u8) := by
          intro xs
          induction xs with
          | nil => rfl
          | cons y r ih => rw [List.map_cons, List.flatten_cons, ih]; rfl
        rw [hfl] at q1
        refine ⟨.string (strOfNums xs), ?_, .pure (.str _)⟩
        rw [List.length_map]
        rcases Nat.eq_zero_or_pos xs.length with h0 | h0
        · obtain rfl : xs = [] := List.length_eq_zero_iff.1 h0
          rw [run_convert_bytes_string w src dst e a _ k h1 he h2]
          cases a with
          | none => simp [Conv.bytesToString, strOfNums]; rfl
          | some a => simp [Conv.bytesToString, strOfNums, loadCells, loadCellsFrom]; rfl
        · obtain ⟨b, o, rfl, q3⟩ := q2 (by simpa using h0)
          refine run_convert_bytes_arg w src e h1 he b o xs.length k xs rfl (fun i hi => ?_) dst h2
          obtain ⟨u, e1, e2⟩ := q1.get (i := i) (c := .int .u8 xs[i]) (by simp [hi])
          obtain rfl := e2.int_inv
          rw [q3 i _ e1]
          simp [List.getD, List.getElem?_eq_getElem hi]
    · cases h
  · cases h

end
end Go.Pvm
