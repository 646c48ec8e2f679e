/- Part of the proof: rows of groups; images of numbers and bytes; a record is read back. -/
import Derived.Test.YtpilgmnhkgcgkaaRdC
set_option linter.unusedSimpArgs false
set_option linter.unusedVariables false
set_option maxRecDepth 100000
namespace Go.Pvm.S
open Go.Pvm Go.Proofs Go.Pvm.Crc

/-! ### Plain -/
theorem first_ok {b : List UInt8} (h : (first b).2.2 = 0) : 2 ≤ (first b).2.1 ∧ (first b).2.1 ≤ b.length := by
  unfold first at h ⊢
  split at h
  · cases h
  · rename_i h2
    rw [if_neg h2]
    split at h
    · cases h
    · rename_i h3
      rw [if_neg h3]
      split at h
      · rename_i h4; exact absurd h h4
      · rename_i h4
        rw [if_neg h4]
        split at h
        · cases h
        · rename_i h5
          rw [if_neg h5]
          split at h
          · cases h
          · rename_i h6
            rw [if_neg h6]
            split at h
            · rename_i h7
              rw [if_pos h7]
              simp only
              omega
            · cases h
def rowN : Nat → List UInt8 → Nat → List (List Img) × Nat
  | 0, _, p => ([], p)
  | k + 1, b, p => if (first (b.drop p)).2.2 ≠ 0 then ([], p) else ((first (b.drop p)).1 :: (rowN k b (p + (first (b.drop p)).2.1)).1, (rowN k b (p + (first (b.drop p)).2.1)).2)
def rowG (b : List UInt8) : List (List Img) × Nat := rowN (b.length + 1) b 0
theorem openB_seal (l : List UInt8) : openB (sealB l) = (l, 0) := by
  have h4 : (sealB l).drop 4 = l := rfl
  have h5 : (sealB l).take 4 = four (sum l) := rfl
  unfold openB
  rw [if_neg (by rw [sealB_len]; omega), h4, h5, if_pos rfl]
theorem chunks_rec : ∀ (g : List Img), (∀ m ∈ g, 0 ≤ m.1 ∧ m.1 ≤ 63 ∧ m.2.length = 512) → chunks g.length (recF g) = g
  | [], _ => rfl
  | m :: g, h => by
    obtain ⟨h1, h2, h3⟩ := h m (.head _)
    rw [List.length_cons, chunks, recF_cons, List.cons_append, List.getD_cons_zero, List.drop_succ_cons, List.drop_zero]
    have e1 : (m.2 ++ recF g).take 512 = m.2 := by rw [List.take_append_of_le_length (by omega), List.take_of_length_le (by omega)]
    have e2 : ((UInt8.ofNat m.1.toNat) :: (m.2 ++ recF g)).drop 513 = recF g := by
      rw [List.drop_succ_cons, List.drop_append_of_le_length (by omega), List.drop_of_length_le (by omega), List.nil_append]
    have e3 : (((UInt8.ofNat m.1.toNat).toNat : Nat) : Int) = m.1 := by rw [UInt8.toNat_ofNat']; omega
    rw [e1, e2, e3, chunks_rec g fun x hx => h x (.tail _ hx)]
theorem first_record {g : List Img} (hg : may g = true) (rest : List UInt8) : first (record g ++ rest) = (g, (record g).length, 0) := by
  have ha := may_all hg
  obtain ⟨h1, h6⟩ := may_len hg
  have hrl := record_len (g := g) fun m hm => (ha m hm).2.2
  have hfl := recF_len (g := g) fun m hm => (ha m hm).2.2
  have hbl : (recB g).length = 1 + 513 * g.length := by unfold recB; rw [List.length_cons, hfl]; omega
  have hsl : (sealB (recB g)).length = 5 + 513 * g.length := by rw [sealB_len, hbl]; omega
  have hsplit : record g ++ rest = UInt8.ofNat ((sealB (recB g)).length / 256) :: UInt8.ofNat (sealB (recB g)).length :: (sealB (recB g) ++ rest) := rfl
  have hn : num2 (record g ++ rest) = (sealB (recB g)).length := by
    rw [hsplit]
    unfold num2
    rw [List.getD_cons_zero, List.getD_cons_succ, List.getD_cons_zero, UInt8.toNat_ofNat', UInt8.toNat_ofNat']
    omega
  have hd : ((record g ++ rest).drop 2).take (num2 (record g ++ rest)) = sealB (recB g) := by
    rw [hn, hsplit, List.drop_succ_cons, List.drop_succ_cons, List.drop_zero, List.take_left' rfl]
  have hlen : (record g ++ rest).length = 2 + (sealB (recB g)).length + rest.length := by rw [List.length_append, hrl, hsl]; omega
  unfold first
  rw [hd, openB_seal]
  have h0 : (recB g).getD 0 0 = UInt8.ofNat g.length := rfl
  have hdr : (recB g).drop 1 = recF g := rfl
  have hdiv : (recB g).length / 513 = g.length := by omega
  show (if (record g ++ rest).length < 2 then (([] : List Img), 0, (4 : Int)) else if (record g ++ rest).length - 2 < num2 (record g ++ rest) then ([], 0, 4) else if (0 : Int) ≠ 0 then ([], 0, 0) else if (recB g).length % 513 ≠ 1 then ([], 0, 4) else if ((recB g).getD 0 0).toNat ≠ (recB g).length / 513 then ([], 0, 4) else
    if may (chunks ((recB g).length / 513) ((recB g).drop 1)) = true then (chunks ((recB g).length / 513) ((recB g).drop 1), 2 + num2 (record g ++ rest), 0) else ([], 0, 4)) = _
  rw [if_neg (by omega), if_neg (by rw [hn]; omega), if_neg (by simp), if_neg (by omega), hdiv, hdr, h0, UInt8.toNat_ofNat', if_neg (by omega), chunks_rec g ha, if_pos hg, hn, hrl, hsl]
  congr 2
  omega
/-- What stands not whole is no group. -/
theorem first_cut {g : List Img} (hg : may g = true) {n : Nat} (hn : n < (record g).length) : (first ((record g).take n)).2.2 ≠ 0 := by
  intro h
  have ha := may_all hg
  have hrl := record_len (g := g) fun m hm => (ha m hm).2.2
  have hl : ((record g).take n).length = n := by simp; omega
  have h2 := first_ok h
  rw [hl] at h2
  have h6 := (may_len hg).2
  have hnum : num2 ((record g).take n) = num2 (record g) := by
    unfold num2
    have e : ∀ i, i < 2 → ((record g).take n).getD i 0 = (record g).getD i 0 := fun i hi => by
      rw [List.getD_eq_getElem?_getD, List.getD_eq_getElem?_getD, List.getElem?_take, if_pos (by omega)]
    rw [e 0 (by omega), e 1 (by omega)]
  have hnr : num2 (record g) = (record g).length - 2 := by
    have hbl : (recB g).length = 1 + 513 * g.length := by unfold recB; rw [List.length_cons, recF_len fun m hm => (ha m hm).2.2]; omega
    have hsl : (sealB (recB g)).length = 5 + 513 * g.length := by rw [sealB_len, hbl]; omega
    have hsplit : record g = UInt8.ofNat ((sealB (recB g)).length / 256) :: UInt8.ofNat (sealB (recB g)).length :: sealB (recB g) := rfl
    rw [hrl, hsplit]
    unfold num2
    rw [List.getD_cons_zero, List.getD_cons_succ, List.getD_cons_zero, UInt8.toNat_ofNat', UInt8.toNat_ofNat']
    omega
  unfold first at h
  rw [if_neg (by omega), if_pos (by rw [hnum, hnr, hl]; omega)] at h
  cases h

/-! ### Rows -/
def RG : ElR (List Img) := fun e g => ∃ u, e = [u] ∧ IsS RI u g
theorem okG : ROk 1 RG := ⟨fun e g h => by obtain ⟨u, rfl, _⟩ := h; rfl, fun e g h c hc => by obtain ⟨u, rfl, hu⟩ := h; rw [List.mem_singleton.1 hc]; exact hu.plain⟩
theorem TG : SlT Try.prog 45 25 1 24 := ⟨by kernel_rfl, by kernel_rfl, by kernel_rfl, ⟨.nilsl, by kernel_rfl, rfl, rfl⟩, by decide, by decide⟩
theorem bsG0 (σ : Store) : buildSlv Try.prog σ 45 0 [] = some (.lsl σ.next 1 0 0 (some 0), σ.push (.cells 0 [])) := by kernel_rfl
section
variable {v w v' : PV} {g g' : List Img} {b x : List UInt8} {σ : Store}
/-! ### Images of numbers and bytes -/
def cN (n : Int) : List PV := [.int .i64 n]
abbrev RN : ElR Int := Fn cN
theorem okN : ROk 1 RN := ROk.fn fun a => ⟨rfl, by simp [cN, PV.plain]⟩
theorem TN : SlT Try.prog 22 3 1 8 := ⟨by kernel_rfl, by kernel_rfl, by kernel_rfl, ⟨.int .i64 0, by kernel_rfl, rfl, rfl⟩, by decide, by decide⟩
def RBB : ElR (List UInt8) := fun e l => ∃ u, e = [u] ∧ IsS RB u l
theorem okBB : ROk 1 RBB := ⟨fun e g h => by obtain ⟨u, rfl, _⟩ := h; rfl, fun e g h c hc => by obtain ⟨u, rfl, hu⟩ := h; rw [List.mem_singleton.1 hc]; exact hu.plain⟩
theorem TBB : SlT Try.prog 23 24 1 24 := ⟨by kernel_rfl, by kernel_rfl, by kernel_rfl, ⟨.nilsl, by kernel_rfl, rfl, rfl⟩, by decide, by decide⟩
theorem cEPage {c2 : Cfg} (hm : c2.mode 16 = .pure) (hP : c2.P = Try.prog) (h : IsS RB v b) (hl : b.length < 4611686018427387904) (σ : Store) : ∃ v', callE c2 (callω cfg) 16 [v] σ = some (v', σ) ∧ IsS RB v' (pg b) := by
  obtain ⟨v', h1, h2⟩ := spPage h hl
  exact ⟨v', callE_pure hm (by rw [hP]; kernel_rfl) (by simp only [List.map_cons, List.map_nil]; rw [fzA h]) h1 (.inr (lfs1 h.lf)), h2⟩
theorem lpImages {ps : List Int} {bs : List (List UInt8)} (hp : IsS RN v ps) (hb : IsS RBB w bs) (hbl : ∀ b ∈ bs, b.length < 4611686018427387904) (σ : Store) : ∀ (k i : Nat) (τ : Store) (u : PV) (acc : List Img), i + k = ((ps.zip bs).take 9).length → acc.length ≤ i → AxS RI τ 2 u acc → Kp σ τ [] → (∀ j ∈ tops u, σ.next ≤ j) →
    ∃ u' τ', loopω cfg 8 lc8_3 (st8_3 v w u (i : Nat)) τ = some (.exit 0, out8_3 u', τ') ∧ AxS RI τ' 2 u' (acc ++ (((ps.zip bs).take 9).drop i).map fun x => (x.1, pg x.2)) ∧ Kp σ τ' [] ∧ ∀ j ∈ tops u', σ.next ≤ j
  | 0, i, τ, u, acc, hi, ha, hu, hk, ht => by
    have hzl : ((ps.zip bs).take 9).length = min 9 (min ps.length bs.length) := by simp
    have ev := lq8_3 (callω cfg) (loopω cfg) τ v w u (i : Nat)
    refine ⟨u, τ, loopω_ofK (ev.trans ?_), by rw [List.drop_eq_nil_of_le (by omega)]; simpa using hu, hk, ht⟩
    by_cases c1 : i < ps.length
    · by_cases c2 : i < bs.length
      · have c3 : decide (((i : Nat) : Int) < 9) = false := decide_eq_false (by omega)
        simp only [hp.len TN, hb.len TBB, bind_some', asInt_int, ltN c1, ltN c2, c3, if_true, Bool.false_eq_true, if_false]
      · simp only [hp.len TN, hb.len TBB, bind_some', asInt_int, ltN c1, nltN (show bs.length ≤ i by omega), if_true, Bool.false_eq_true, if_false]
    · simp only [hp.len TN, bind_some', asInt_int, nltN (show ps.length ≤ i by omega), Bool.false_eq_true, if_false]
  | k + 1, i, τ, u, acc, hi, ha, hu, hk, ht => by
    have hzl : ((ps.zip bs).take 9).length = min 9 (min ps.length bs.length) := by simp
    have c1 : i < ps.length := by omega
    have c2 : i < bs.length := by omega
    have c3 : decide (((i : Nat) : Int) < 9) = true := decide_eq_true (by omega)
    have w1 := List.getElem?_eq_getElem c1
    have w2 := List.getElem?_eq_getElem c2
    have hd : ((ps.zip bs).take 9).drop i = (ps[i], bs[i]) :: ((ps.zip bs).take 9).drop (i + 1) := by
      rw [List.drop_eq_getElem_cons (by omega)]
      simp
    generalize ps[i] = p at w1 hd
    generalize bs[i] = b at w2 hd
    obtain ⟨e1, i1, rfl⟩ := hp.idx TN okN w1 .i64
    obtain ⟨e2, i2, ub, rfl, hub⟩ := hb.idx TBB okBB w2 .i64
    have hldN : ∀ σ, loadv Try.prog σ 3 (.pref (cN p)) = some (.int .i64 p) := fun σ => ldInt σ _ _
    obtain ⟨v1, q1, hv1⟩ := cEPage (c2 := cfgS) rfl rfl hub (hbl b (List.mem_of_getElem? w2)) τ
    have ev := lq8_3 (callω cfg) (loopω cfg) τ v w u (i : Nat)
    simp only [hp.len TN, hb.len TBB, bind_some', asInt_int, ltN c1, ltN c2, c3, if_true, i1, i2, hldN, ldtB, q1, bvI _ hv1.plain, bsI1, wrap_succ (show i < 4611686018427387904 by omega)] at ev
    obtain ⟨u1, τ1, r1, r2, r3, r4⟩ := hu.app1 TI okI (All2.one (show RI [.int .i64 p, v1] (p, pg b) from ⟨v1, rfl, hv1⟩)) (by simp; omega) (n := 1) rfl
    rw [r1] at ev
    simp only [bind_some'] at ev
    have k1 : Kp σ τ1 [] := hk.trans r3.kp (fun j hj => .inr (ht j hj))
    have t1 : ∀ j ∈ tops u1, σ.next ≤ j := fun j hj => (r4 j hj).elim (ht j) (fun e => by have := hk.1; omega)
    obtain ⟨u2, τ2, s1, s2, s3, s4⟩ := lpImages hp hb hbl σ k (i + 1) τ1 u1 _ (by omega) (by simp; omega) r2 k1 t1
    refine ⟨u2, τ2, loopω_ofK (ev.trans s1), ?_, s3, s4⟩
    rw [hd]
    simpa using s2
theorem spImages {ps : List Int} {bs : List (List UInt8)} (hp : IsS RN v ps) (hb : IsS RBB w bs) (hbl : ∀ b ∈ bs, b.length < 4611686018427387904) (σ : Store) :
    ∃ u τ, callω cfg 8 [v, w] σ = some (u, τ) ∧ AxS RI τ 2 u (imgs ps bs) ∧ Kp σ τ [] ∧ ∀ j ∈ tops u, σ.next ≤ j := by
  have ev := eq8 (callω cfg) (loopω cfg) σ v w
  obtain ⟨u, τ, r1, r2, r3, r4⟩ := lpImages hp hb hbl σ ((ps.zip bs).take 9).length 0 (σ.push (.cells 0 [])) (.lsl σ.next 2 0 0 (some 0)) [] (by omega) (by simp) (AxS.fresh .nil σ 2 rfl) (Mod.push σ _ []).kp (fun j hj => by simp [tops] at hj; omega)
  rw [natz] at r1
  simp only [bsI0, bind_some', r1, onEx_exit, if_true, out8_3_5] at ev
  rw [List.nil_append, List.drop_zero] at r2
  exact ⟨u, τ, callω_ofK (hT _) ev, r2, r3, r4⟩
theorem cEImages {ps : List Int} {bs : List (List UInt8)} (hp : IsS RN v ps) (hb : IsS RBB w bs) (hbl : ∀ b ∈ bs, b.length < 4611686018427387904) (σ : Store) :
    ∃ u τ, callE cfg (callω cfg) 8 [v, w] σ = some (u, τ) ∧ AxS RI τ 2 u (imgs ps bs) ∧ Kp σ τ [] ∧ ∀ j ∈ tops u, σ.next ≤ j := by
  rw [callE_live rfl (by kernel_rfl)]
  exact spImages hp hb hbl σ
theorem cEEncode (h : QS RI σ 2 v g) (hg : may g = true) : ∃ τ id, callE cfg (callω cfg) 10 [v] σ = some (.tuple [.lsl id 1 0 (record g).length none, .int .i64 0], τ) ∧ τ.objs id = some (.cells 0 ((record g).map cB)) ∧ σ.next ≤ id ∧ id < τ.next ∧ Kp σ τ [] := by
  rw [callE_live rfl (by kernel_rfl)]
  exact spEncode h hg
theorem cEEncodeNo (h : QS RI σ 2 v g) (hl : g.length ≤ 1000000) (hg : may g = false) : callE cfg (callω cfg) 10 [v] σ = some (.tuple [.nilsl, .int .i64 1], σ) := by
  rw [callE_live rfl (by kernel_rfl)]
  exact spEncodeNo h hl hg
/-- A row of bytes in the store. -/
theorem rowQ {σ : Store} {id n : Nat} {cap : Option Nat} {l : List UInt8} {ro : Nat} (ho : σ.objs id = some (.cells ro (l.map cB))) (hn : n = l.length) (hid : id < σ.next) : QS RB σ 1 (.lsl id 1 0 n cap) l := by
  subst hn
  exact ⟨l.map cB, .inr ⟨id, 0, cap, ro, l.map cB, by simp, ho, by simp, by rw [List.drop_zero, List.take_length], hid⟩, All2.ofMap l⟩
theorem rowLf {σ : Store} {id n : Nat} {cap : Option Nat} {l : List UInt8} {ro : Nat} (ho : σ.objs id = some (.cells ro (l.map cB))) : ∀ j ∈ tops (.lsl id 1 0 n cap), Lf σ j := fun j hj => by
  simp [tops] at hj
  subst hj
  exact ⟨ro, _, ho, (okB.els (All2.ofMap l)).plain.lf⟩

/-! ### Awake -/
theorem spAwake : pureω cfg 9 [] = some (.bool true) := by
  have ev := eq9 (callω cfg) (loopω cfg) .empty
  have hf := AxS.fresh (R := RB) (All2.one (show RB [PV.int .u8 7] (7 : UInt8) from rfl)) .empty 1 (n := 1) rfl
  obtain ⟨v1, c1, w1⟩ := spPage (hf.frz okB 6) (by decide)
  obtain ⟨τ1, d1, d2⟩ := callQ (c2 := cfg) (f := 16) (args := [.lsl Store.empty.next 1 0 1 (some 1)]) (σ := Store.empty.push (.cells 0 [[.int .u8 7]])) rfl rfl (by kernel_rfl) rfl c1 (by rw [topss1]; exact hf.lf okB)
  let g : List Img := [(3, pg [7])]
  have hmay : may g = true := by
    unfold may chk chk okI1
    simp [g, pg_len]
  have hg := AxS.fresh (R := RI) (l := g) (All2.one (show RI [.int .i64 3, v1] (3, pg [7]) from ⟨v1, rfl, w1⟩)) τ1 2 (n := 1) rfl
  obtain ⟨τ2, id, e1, e2, e3, e4, e5⟩ := cEEncode hg.q hmay
  have hrl : (record g).length = 520 := record_len (g := g) (by simp [g, pg_len])
  obtain ⟨v3, τ3, f1, f2, f3⟩ := cEFirst (rowQ (cap := none) e2 rfl e4) (rowLf e2) (by omega)
  have hfr : first (record g) = (g, (record g).length, 0) := by have := first_record hmay []; rwa [List.append_nil] at this
  rw [hfr] at f1 f2
  obtain ⟨u3, x1, hu3⟩ := idxI f2 (i := 0) (m := (3, pg [7])) rfl
  obtain ⟨e, y1, y2⟩ := idxB hu3 (i := 511) (by rw [pg_len]; decide)
  rw [natz] at x1
  have y1' : indexAddrv Try.prog 24 u3 (.int .i64 511) = some (.pref [e]) := y1
  have hlast : (pg [7]).getD 511 0 = 7 := by decide +kernel
  simp only [hlast] at y2
  have hgl : (((g.length : Nat) : Int)) = 1 := rfl
  have h520 : ((((record g).length : Nat) : Int) == 520) = true := by rw [hrl]; rfl
  have hz : ((0 : Int) == 0) = true := rfl
  have h1 : ((1 : Int) == 1) = true := rfl
  have h3 : ((3 : Int) == 3) = true := rfl
  simp only [bsB1i, d1, bind_some', bvI _ w1.plain, bsI1, e1, tupv_0, tupv_1, tupv_2, asInt_int, f1, hz, if_true, h520, f2.len TI, hgl, h1, x1, faI0, faI1, ldInt, ldtB, h3, y1', y2] at ev
  exact pureω_of (hT _) ev rfl
theorem cEAwake {c2 : Cfg} (hm : c2.mode 9 = .pure) (hP : c2.P = Try.prog) (σ : Store) : callE c2 (callω cfg) 9 [] σ = some (.bool true, σ) := callE_pure hm (by rw [hP]; kernel_rfl) rfl spAwake (.inl rfl)
end
end Go.Pvm.S
