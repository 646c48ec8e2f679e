/- Part of the proof: waits that end: 'Drop'. -/
import Derived.Test.YtmmjkeiophcjcaaWaitL
import Derived.Test.YtmmjkeiophcjcaaV25
set_option linter.unusedSimpArgs false
set_option linter.unusedVariables false
set_option maxRecDepth 100000
namespace Go.Pvm.Wait
open Go.Pvm Go.Proofs
/-! IndexFunc: the first element that a closure takes. -/
section
variable {v : PV} {es : List (List PV)} {σ : Store}
theorem ixW_lp (h : IsP v es) (hE : Els 2 es) {g : FuncId} {cs : List PV} {p : List PV → Bool} (hp : ∀ e ∈ es, ∀ σ, callE cfg (callω cfg) g ([.agg e] ++ cs) σ = some (.bool (p e), σ)) (hl : es.length < 4611686018427387904) (σ : Store) :
    ∀ (k i : Nat), i + k = es.length → loopω cfg 27 lc27_2 (st27_2 v (.func g cs) (es.length : Nat) (i : Nat)) σ = some (match (es.drop i).findIdx? p with | some j => (.ret, ret27_2 ((i + j : Nat) : Int), σ) | none => (.exit 0, out27_2, σ))
  | 0, i, hi => by
    refine loopω_ofK ((lq27_2 _ _ _ _ _ _ _).trans ?_)
    simp only [nltN (show es.length ≤ i by omega), Bool.false_eq_true, if_false]
    rw [List.drop_eq_nil_of_le (by omega)]
    rfl
  | k + 1, i, hi => by
    refine loopω_ofK ((lq27_2 _ _ _ _ _ _ _).trans ?_)
    have hw := List.getElem?_eq_getElem (show i < es.length by omega)
    have hm := List.mem_of_getElem? hw
    have hx := hp _ hm σ
    have hd : es.drop i = es[i]'(by omega) :: es.drop (i + 1) := (List.drop_eq_getElem_cons (by omega))
    have hu : Try.prog.underlying 22 = some (.slice 38) := by kernel_rfl
    have hA : AggT Try.prog 38 2 := .of (by kernel_rfl) (by kernel_rfl)
    have hload : loadv Try.prog σ 38 (.pref (es[i]'(by omega))) = some (.agg (es[i]'(by omega))) := hA.part (hE _ hm).1
    simp only [ltN (show i < es.length by omega), if_true, h.idx hu hA.1 hw (hE _ hm).1, hload, bind_some', fnv_func, hx, asBool_bool]
    rw [hd, List.findIdx?_cons]
    by_cases hb : p (es[i]'(by omega)) = true
    · rw [if_pos hb, if_pos hb]
      rfl
    · rw [if_neg hb, if_neg hb]
      rw [wrap_succ (by omega), ixW_lp h hE hp hl σ k (i + 1) (by omega)]
      cases (es.drop (i + 1)).findIdx? p with
      | none => rfl
      | some j => simp only [Option.map_some]; rw [show i + 1 + j = i + (j + 1) by omega]

theorem ixW_sp (h : IsP v es) (hE : Els 2 es) {g : FuncId} {cs : List PV} {p : List PV → Bool} (hp : ∀ e ∈ es, ∀ σ, callE cfg (callω cfg) g ([.agg e] ++ cs) σ = some (.bool (p e), σ)) (hl : es.length < 4611686018427387904) :
    pureω cfg 27 [v, .func g cs] = some (.int .i64 (Pvm.idxI (es.findIdx? p))) := by
  refine pureω_of hT (v := .int .i64 (Pvm.idxI (es.findIdx? p))) (τ := .empty) ((eq27 _ _ _ _ _).trans ?_) rfl
  have h0 := ixW_lp h hE hp hl .empty es.length 0 (by omega)
  have hu : Try.prog.underlying 22 = some (.slice 38) := by kernel_rfl
  simp only [h.len hu, bind_some', asInt_int]
  rw [natz] at h0
  rw [h0, List.drop_zero]
  cases es.findIdx? p with
  | none => simp [onEx_exit, Pvm.idxI]
  | some j => simp only [onEx_ret, Pvm.idxI, ret27_2_4, asInt_int, Nat.zero_add]; rfl
end

/-! DeleteFunc, in place. -/
section
/-- A closure whose captured variables stay as they are. -/
structure delW_Cl (id : Nat) (g : FuncId) (cs cs' : List PV) (p : List PV → Bool) (es : List (List PV)) (Inv : Store → Prop) : Prop where
  m : cfg.mode g = .pure
  e : enters Try.prog g = true
  pure : ∀ e ∈ es, pureω cfg g (.agg e :: cs') = some (.bool (p e))
  fz : ∀ σ n, Inv σ → cs.map (fz (n + 3) σ) = cs'
  lf : PV.lf.lfs cs' = true
  fz' : ∀ σ n, cs'.map (Pvm.fz (n + 1) σ) = cs'
  keep : ∀ σ τ, Inv σ → Mod σ τ [id] → Inv τ
  bnd : ∀ σ, Inv σ → id < σ.next
variable {es : List (List PV)} {id : Nat} {g : FuncId} {cs cs' : List PV} {p : List PV → Bool} {Inv : Store → Prop}
theorem delW_call (K : delW_Cl id g cs cs' p es Inv) (hE : Els 2 es) {e : List PV} (he : e ∈ es) {σ : Store} (hi : Inv σ) : callE cfg (callω cfg) g ([.agg e] ++ cs) σ = some (.bool (p e), σ) := by
  refine callE_pure K.m K.e ?_ (K.pure e he) (.inl rfl)
  show fz 8 σ (.agg e) :: cs.map (fz (5 + 3) σ) = _
  rw [K.fz σ 5 hi]
  show PV.agg (e.map (fz 7 σ)) :: cs' = _
  rw [fz_plains (hE e he).2]
theorem delW_lp (K : delW_Cl id g cs cs' p es Inv) (hE : Els 2 es) {len n : Nat} {cap : Option Nat} (hl : len < 4611686018427387904) (hn : len ≤ n) :
    ∀ (k i j : Nat) (σ : Store) (cur acc rest : List (List PV)), j + k = len → i < j → Inv σ → σ.objs id = some (.cells 0 cur) → cur.length = n → Els 2 cur → cur.take i = acc → (cur.drop j).take k = rest → (∀ e ∈ rest, e ∈ es) →
    ∃ τ cur', loopω cfg 25 lc25_5 (st25_5 (.lsl id 2 0 len cap) (.func g cs) (i : Nat) (j : Nat)) σ = some (.exit 0, out25_5 (.lsl id 2 0 len cap) ((i + (rest.filter fun e => !p e).length : Nat) : Int), τ) ∧ Inv τ ∧
      τ.objs id = some (.cells 0 cur') ∧ cur'.length = n ∧ Els 2 cur' ∧ cur'.take (i + (rest.filter fun e => !p e).length) = acc ++ rest.filter (fun e => !p e) ∧ Mod σ τ [id]
  | 0, i, j, σ, cur, acc, rest, hj, hij, hI, ho, hc, hEc, ha, hr, hm => by
    have hrest : rest = [] := by rw [← hr]; simp
    subst hrest
    refine ⟨σ, cur, loopω_ofK ((lq25_5 _ _ _ _ _ _ _).trans ?_), hI, ho, hc, hEc, by simpa using ha, Mod.refl _ _⟩
    have hu : Try.prog.underlying 22 = some (.slice 38) := by kernel_rfl
    simp only [len_lsl hu, bind_some', asInt_int, nltN (show len ≤ j by omega), Bool.false_eq_true, if_false]
    simp
  | k + 1, i, j, σ, cur, acc, rest, hj, hij, hI, ho, hc, hEc, ha, hr, hm => by
    have hu : Try.prog.underlying 22 = some (.slice 38) := by kernel_rfl
    have hA : AggT Try.prog 38 2 := .of (by kernel_rfl) (by kernel_rfl)
    have hjc : j < cur.length := by omega
    have hw := List.getElem?_eq_getElem hjc
    have hd : cur.drop j = cur[j] :: cur.drop (j + 1) := List.drop_eq_getElem_cons hjc
    rw [hd, List.take_succ_cons] at hr
    generalize hx : cur[j] = x at hw hr
    obtain ⟨hx1, hx2⟩ := hEc x (List.mem_of_getElem? hw)
    have hxe : x ∈ es := hm x (by rw [← hr]; exact .head _)
    have hid := K.bnd σ hI
    have hbase := lq25_5 (callω cfg) (loopω cfg) σ (.lsl id 2 0 len cap) (.func g cs) (i : Nat) (j : Nat)
    have hn1 := Pvm.stNew (P := Try.prog) (σ := σ) (t := 38) (n := 2) hA.1 (z := [.int .i64 0, .int .i64 0]) rfl (v := .agg x) hx1 (ones_plain hx2)
    have hI1 : Inv (σ.push (.cells 0 [x])) := K.keep _ _ hI (Mod.push _ _ _)
    have hcall := delW_call K hE hxe hI1
    have hld : loadv Try.prog σ 38 (.ref id (0 + j) 0) = some (.agg x) := by rw [Nat.zero_add, ldRef ho hw]; exact hA.part hx1
    have hn1' : storev Try.prog (Store.push σ (.cells 0 [[.int .i64 0, .int .i64 0]])) 38 (.ref (Store.next σ) 0 0) (.agg x) = some (σ.push (.cells 0 [x])) := hn1
    have hag : partOf Try.prog 38 x 0 = some (.agg x) := hA.part hx1
    simp only [len_lsl hu, bind_some', asInt_int, ltN (show j < len by omega), if_true, ia_lsl hu hA.1 (show j < len by omega), hld, hn1', ldPush, hag, fnv_func, hcall, asBool_bool, wrap_succ (show j < 4611686018427387904 by omega), wrap_succ (show i < 4611686018427387904 by omega), ia_lsl hu hA.1 (show i < len by omega)] at hbase
    have ho1 : (σ.push (.cells 0 [x])).objs id = some (.cells 0 cur) := (push_old hid).trans ho
    rw [← hr] at hm ⊢
    by_cases hb : p x = true
    · simp only [hb, Bool.not_true, Bool.false_eq_true, if_false] at hbase
      obtain ⟨τ, cur', q1, q2, q3, q4, q5, q6, q7⟩ := delW_lp K hE hl hn k i (j + 1) (σ.push (.cells 0 [x])) cur acc ((cur.drop (j + 1)).take k) (by omega) (by omega) hI1 ho1 hc hEc ha rfl (fun e he => hm e (.tail _ he))
      have hf : (x :: (cur.drop (j + 1)).take k).filter (fun e => !p e) = ((cur.drop (j + 1)).take k).filter (fun e => !p e) := by rw [List.filter_cons, hb]; rfl
      rw [hf]
      exact ⟨τ, cur', loopω_ofK (hbase.trans q1), q2, q3, q4, q5, q6, (Mod.push _ _ [id]).trans' q7 (fun i hi => .inl hi)⟩
    · have hb' : p x = false := by simpa using hb
      have hic : i < cur.length := by omega
      have hst := stRef (P := Try.prog) (t := 38) hA.1 ho1 (Nat.zero_le i) (List.getElem?_eq_getElem hic) (hEc _ (List.getElem_mem hic)).1 (v := .agg x) hx1 (ones_plain hx2)
      have hst' : storev Try.prog (σ.push (.cells 0 [x])) 38 (.ref id (0 + i) 0) (.agg x) = some ((σ.push (.cells 0 [x])).put id (.cells 0 (cur.set i x))) := by rw [Nat.zero_add]; exact hst
      simp only [hb', Bool.not_false, if_true, hst', bind_some'] at hbase
      have hI2 : Inv ((σ.push (.cells 0 [x])).put id (.cells 0 (cur.set i x))) := K.keep _ _ hI1 (Mod.put (.head _))
      have hdr : (cur.set i x).drop (j + 1) = cur.drop (j + 1) := List.drop_set_of_lt (by omega)
      obtain ⟨τ, cur', q1, q2, q3, q4, q5, q6, q7⟩ := delW_lp K hE hl hn k (i + 1) (j + 1) _ (cur.set i x) (acc ++ [x]) ((cur.drop (j + 1)).take k) (by omega) (by omega) hI2 (put_obj _ _ _) (by simpa using hc)
        (fun e he => (List.mem_or_eq_of_mem_set he).elim (hEc e) (fun q => q ▸ ⟨hx1, hx2⟩)) (by
          rw [List.take_add_one, List.take_set_of_le (Nat.le_refl _), ha, List.getElem?_set_self (by omega)]
          rfl) (by rw [hdr]) (fun e he => hm e (.tail _ he))
      have hf : (x :: (cur.drop (j + 1)).take k).filter (fun e => !p e) = x :: ((cur.drop (j + 1)).take k).filter (fun e => !p e) := by rw [List.filter_cons, hb']; rfl
      rw [hf]
      refine ⟨τ, cur', loopω_ofK (hbase.trans ?_), q2, q3, q4, q5, ?_, ?_⟩
      · rw [q1]
        simp only [List.length_cons]
        rw [show i + 1 + (((cur.drop (j + 1)).take k).filter fun e => !p e).length = i + ((((cur.drop (j + 1)).take k).filter fun e => !p e).length + 1) by omega]
      · rw [List.length_cons, show i + ((((cur.drop (j + 1)).take k).filter fun e => !p e).length + 1) = i + 1 + (((cur.drop (j + 1)).take k).filter fun e => !p e).length by omega, q6]
        simp
      · exact ((Mod.push σ _ [id]).trans' (Mod.put (.head _)) (fun i hi => .inl hi)).trans' q7 (fun i hi => .inl hi)

/-- What is deleted leaves; the rest stands in the same row. -/
theorem delW_sp (K : delW_Cl id g cs cs' p es Inv) (hE : Els 2 es) {cap : Option Nat} (hl : es.length < 4611686018427387904) {σ : Store} {full : List (List PV)} (hI : Inv σ) (ho : σ.objs id = some (.cells 0 full)) (hEf : Els 2 full) (hlen : es.length ≤ full.length) (htk : full.take es.length = es) (hcap : ∀ c, cap = some c → es.length ≤ c) :
    ∃ τ full', callω cfg 25 [.lsl id 2 0 es.length cap, .func g cs] σ = some (.lsl id 2 0 (es.filter fun e => !p e).length cap, τ) ∧ Inv τ ∧ τ.objs id = some (.cells 0 full') ∧ full'.length = full.length ∧ Els 2 full' ∧ full'.take (es.filter fun e => !p e).length = es.filter (fun e => !p e) ∧ Mod σ τ [id] := by
  have hu : Try.prog.underlying 22 = some (.slice 38) := by kernel_rfl
  have hA : AggT Try.prog 38 2 := .of (by kernel_rfl) (by kernel_rfl)
  have ev := eq25 (callω cfg) (loopω cfg) σ (.lsl id 2 0 es.length cap) (.func g cs)
  have hq : IsQ σ 2 (.lsl id 2 0 es.length cap) es := .inr ⟨id, 0, cap, 0, full, rfl, ho, by omega, by simpa using htk, K.bnd σ hI⟩
  have hip := hq.frz hE.plain 6
  have hidx := callE_pure (cfg := cfg) (c2 := cfg) (f := 27) (σ := σ) (args := [.lsl id 2 0 es.length cap, .func g cs]) (args' := [fz 8 σ (.lsl id 2 0 es.length cap), .func g cs']) rfl (by kernel_rfl) (by
    show [fz 8 σ _, PV.func g (cs.map (fz (4 + 3) σ))] = _
    rw [K.fz σ 4 hI]) (ixW_sp hip hE (p := p) (fun e he τ => callE_pure K.m K.e (by
      show PV.agg (e.map (fz 7 τ)) :: cs'.map (fz (7 + 1) τ) = _
      rw [fz_plains (hE e he).2, K.fz' τ 7]) (K.pure e he) (.inl rfl)) hl) (.inl rfl)
  simp only [hidx, bind_some', asInt_int] at ev
  cases hf : es.findIdx? p with
  | none =>
    rw [List.findIdx?_eq_none_iff] at hf
    have hfil : es.filter (fun e => !p e) = es := by
      rw [List.filter_eq_self]
      intro e he
      rw [hf e he]; rfl
    have hm1 : ((-1 : Int) == (-1)) = true := rfl
    simp only [show es.findIdx? p = none from List.findIdx?_eq_none_iff.2 hf, Pvm.idxI, hm1, if_true] at ev
    rw [hfil]
    exact ⟨σ, full, callω_ofK hT ev, hI, ho, rfl, hEf, htk, Mod.refl _ _⟩
  | some j =>
    have hj := (List.findIdx?_eq_some_iff_getElem.1 hf)
    obtain ⟨hjl, hpj, hbef⟩ := hj
    have hm1 : ((((j : Nat) : Int)) == (-1)) = false := by
      rw [beq_eq_false_iff_ne]; omega
    simp only [hf, Pvm.idxI, hm1, Bool.false_eq_true, if_false, wrap_succ (show j < 4611686018427387904 by omega)] at ev
    have hacc : full.take j = es.take j := by rw [← htk, List.take_take, Nat.min_eq_left (by omega)]
    have hrest : (full.drop (j + 1)).take (es.length - (j + 1)) = es.drop (j + 1) := by
      rw [← List.drop_take, htk]
    obtain ⟨τ, cur', q1, q2, q3, q4, q5, q6, q7⟩ := delW_lp K hE (len := es.length) (n := full.length) (cap := cap) hl hlen (es.length - (j + 1)) j (j + 1) σ full (es.take j) (es.drop (j + 1)) (by omega) (by omega) hI ho rfl hEf hacc hrest (fun e he => List.mem_of_mem_drop he)
    have hsplit : es.filter (fun e => !p e) = es.take j ++ (es.drop (j + 1)).filter (fun e => !p e) := by
      have h1 : es = es.take j ++ (es[j] :: es.drop (j + 1)) := by rw [← List.drop_eq_getElem_cons hjl, List.take_append_drop]
      have h2 : es.filter (fun e => !p e) = (es.take j).filter (fun e => !p e) ++ (es[j] :: es.drop (j + 1)).filter (fun e => !p e) := by
        rw [← List.filter_append, ← h1]
      rw [h2, List.filter_cons, hpj]
      have h3 : (es.take j).filter (fun e => !p e) = es.take j := by
        rw [List.filter_eq_self]
        intro e he
        obtain ⟨i, hi, rfl⟩ := List.mem_iff_getElem.1 he
        rw [List.length_take] at hi
        have hb := hbef i (by omega)
        rw [List.getElem_take]
        simpa using hb
      rw [h3]
      simp
    have hk : (es.filter fun e => !p e).length = j + ((es.drop (j + 1)).filter fun e => !p e).length := by
      rw [hsplit, List.length_append, List.length_take, Nat.min_eq_left (by omega)]
    rw [hk]
    have hkl : j + ((es.drop (j + 1)).filter fun e => !p e).length ≤ es.length := by
      rw [← hk]; exact List.length_filter_le _ _
    generalize hK : j + ((es.drop (j + 1)).filter fun e => !p e).length = K' at q1 q6 hk hkl
    have hc1 := cut_lsl (P := Try.prog) (t := 22) (el := 38) (sz := 2) (id := id) (idx := 0) (len := es.length) (a := K') (b := es.length) (cap := cap) (lo := some (.int .i64 (K' : Nat))) (hi := none) hu hA.1 (numOf_nat _ _ _) rfl hkl (Nat.le_refl _) hcap
    have hc2 := cut_lsl (P := Try.prog) (t := 22) (el := 38) (sz := 2) (id := id) (idx := 0) (len := es.length) (a := 0) (b := K') (cap := cap) (lo := none) (hi := some (.int .i64 (K' : Nat))) hu hA.1 rfl (numOf_nat _ _ _) (Nat.zero_le _) hkl hcap
    have hclr := clear_lsl (P := Try.prog) (t := 22) (el := 38) (sz := 2) (z := .agg [.int .i64 0, .int .i64 0]) (cap := cap.map (· - K')) hu hA.1 (by decide) (by kernel_rfl) rfl rfl rfl q3 (show 0 + K' + (es.length - K') ≤ cur'.length by omega) (Nat.zero_le _)
    simp only [q1, bind_some', onEx_exit, out25_5_0, out25_5_5, asInt_int, if_true, hc1, hclr, hc2] at ev
    have hcm : cap.map (· - 0) = cap := by cases cap <;> rfl
    rw [hcm, Nat.sub_zero] at ev
    refine ⟨_, _, callω_ofK hT ev, K.keep _ _ q2 (Mod.put (.head _)), put_obj _ _ _, ?_, ?_, ?_, q7.trans' (Mod.put (.head _)) (fun i hi => .inl hi)⟩
    · simp; omega
    · refine ((q5.sub fun e he => List.mem_of_mem_take he).app ?_).app (q5.sub fun e he => List.mem_of_mem_drop he)
      intro e he
      rw [(List.mem_replicate.1 he).2]
      exact ⟨rfl, by simp [PV.cells, PV.plain]⟩
    · rw [hsplit, Nat.zero_add, List.append_assoc, List.take_append_of_le_length (by rw [List.length_take]; omega), List.take_take, Nat.min_self, q6]
end

end Go.Pvm.Wait
