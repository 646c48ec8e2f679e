/- Part of the proof: the pool: what is in, what is dirty. -/
import Derived.Test.YtceokplopachgaaPolI
set_option linter.unusedSimpArgs false
set_option linter.unusedVariables false
set_option maxRecDepth 100000
namespace Go.Pvm.S
open Go.Pvm Go.Proofs
theorem zcw : Try.prog.underlying 50 = some (.slice 3) := by kernel_rfl
theorem zth : OneT Try.prog 27 := .of (by kernel_rfl) (by kernel_rfl)
theorem ztt (i : Nat) : zj Try.prog 49 (.ref i 0 0) 2 = some (.ref i 0 3) := by kernel_rfl
def Po.ins (p : Po) : List Int := (p.m.map (·.1)).mergeSort fun x y => decide (x ≤ y)
section
variable {g g' : Nat → Nat} {σ τ : Store} {pid did mid : Nat} {p : Po} {vs v : PV} {ids : List Nat}
theorem zi6 : ∀ {m : List (Int × Sh)} {ids : List Nat},ids.length = m.length → (∀ e ∈ m,-9223372036854775808 ≤ e.1 ∧ e.1 ≤ 9223372036854775807) → zdj (kv m ids) = some (m.map (·.1))
 | [],ids,h,_ => by
   have : ids = [] := ha1 h
   subst this; rfl
 | e :: m,[],h,_ => by cases h
 | e :: m,i :: ids,h,hr => by
   show zdj ((.int .i64 e.1,.ref i 0 0) :: kv m ids) = _
   unfold zdj
   rw [if_pos (hr e (.head _)),zi6 (by simpa using h) fun x hx => hr x (.tail _ hx)]
   rfl
def Own1 (σ τ : Store) (v : PV) (l : List Int) : Prop := (v = .nilsl ∧ l = []) ∨ ∃ id,v = .lsl id 1 0 l.length none ∧ τ.objs id = some (.cells 0 (l.map ie)) ∧ σ.next ≤ id ∧ id < τ.next
theorem zz6 (hd : DevS g σ did p.d) (r : PoR g σ pid did mid p vs ids) {P n : Nat} {T : Int} (hK : PoK P n T p) (hP : P ≤ 64) (hm : p.m.length ≤ 1000000) :
  ∃ τ v,ze cfg 18 [.ref pid 0 0] σ = some (v,τ) ∧ Own1 σ τ v p.ins ∧ Mod σ τ [] := by
 have ev := z0w (ze cfg) (y2 cfg) σ pid 0 0
 have h1 := zvk (c2 := cfg) rfl rfl ⟨hd,vs,ids,r⟩
 have t1 : cfg.told 44 = some (zef Try.prog (.keys 71)) := rfl
 have t2 : cfg.told 43 = some (zef Try.prog (.sorted 71)) := rfl
 have k1 : zi cfg (ze cfg) 44 [.mref mid] σ = some (.func 71 [.ref σ.next 0 0],σ.push (.mbox mid)) := by
  rw [zk rfl (by kernel_rfl),zda t1]; rfl
 have hko : zdj (kv p.m ids) = some (p.m.map (·.1)) := zi6 r.il fun e he => by have := hK.rg e he; omega
 have hob : (σ.push (.mbox mid)).objs σ.next = some (.mbox mid) := zn _ _
 have hom : (σ.push (.mbox mid)).objs mid = some (.map (kv p.m ids)) := (yj r.lm).trans r.mo
 have k2 : zi cfg (ze cfg) 43 [.func 71 [.ref σ.next 0 0]] (σ.push (.mbox mid)) = some (if (p.m.map (·.1)).length = 0 then (PV.nilsl,σ.push (.mbox mid)) else (.lsl (σ.next + 1) 1 0 (p.m.map (·.1)).length none,(σ.push (.mbox mid)).push (.cells 0 (p.ins.map jr)))) := by
  rw [zk rfl (by kernel_rfl),zda t2]
  rw [show zef Try.prog (.sorted 71) = zbm 71 from rfl]
  unfold zbm
  simp only [if_true,hob,hom]
  rw [if_pos (by rw [zxf r.il]; exact hm),hko]
  rfl
 rw [h1,za,zc,if_neg (by decide),r.ldM,za,k1,za,k2] at ev
 have hlen : p.ins.length = (p.m.map (·.1)).length := by unfold Po.ins; rw [List.length_mergeSort]
 by_cases c : (p.m.map (·.1)).length = 0
 ·rw [if_pos c,za] at ev
  exact ⟨_,_,zf (hT _) ev,.inl ⟨rfl,ha1 (by rw [hlen]; exact c)⟩,Mod.push _ _ _⟩
 ·rw [if_neg c,za] at ev
  refine ⟨_,_,zf (hT _) ev,.inr ⟨σ.next + 1,by rw [hlen],?_,hbd _,haw _⟩,(Mod.push σ (.mbox mid) []).trans (Mod.push (σ.push (.mbox mid)) (.cells 0 (p.ins.map jr)) [])⟩
  exact zn (σ.push (.mbox mid)) _
theorem ldN {id i : Nat} {l : List Int} (ho : σ.objs id = some (.cells 0 (l.map ie))) (hi : i < l.length) : zd Try.prog σ 3 (.ref id (0 + i) 0) = some (.int .i64 l[i]) := by
 have h : (l.map ie)[0 + i]? = some (ie l[i]) := by rw [hb4]; exact zdf (haf hi)
 rw [znz ho h,oInt.part]; rfl
theorem ztq {f : FuncId} {cs : List PV} {q : Int → Bool} {id : Nat} {cap : Option Nat} {l : List Int} (hl : l.length < 4611686018427387904) (ho : σ.objs id = some (.cells 0 (l.map ie))) (hq : ∀ x ∈ l,zi cfg (ze cfg) f ([.int .i64 x] ++ cs) σ = some (.bool (q x),σ)) :
  ∀ (k i : Nat),i + k = l.length → y2 cfg 72 zi2 (zie (.lsl id 1 0 l.length cap) (.func f cs) (l.length : Nat) (i : Nat)) σ = some (match (l.drop i).findIdx? q with | some j => (.ret,zkh ((i + j : Nat) : Int),σ) | none => (.exit 0,zkr,σ))
 | 0,i,hi => by
   refine yi ((zqb _ _ _ _ _ _ _).trans ?_)
   rw [if_neg (by simp; omega),List.drop_eq_nil_of_le (by omega)]
   rfl
 | k + 1,i,hi => by
   have hil : i < l.length := by omega
   refine yi ((zqb _ _ _ _ _ _ _).trans ?_)
   rw [if_pos (by simp; omega),zmn zcw oInt.1 hil,za,ldN ho hil,za,zb,zmr,za,hq _ (List.getElem_mem hil),za,zc,hbo hil,List.findIdx?_cons]
   by_cases hb : q l[i] = true
   ·rw [if_pos hb,if_pos hb]; rfl
   ·rw [if_neg hb,if_neg hb,y6 (by omega),ztq hl ho hq k (i + 1) (by omega)]
    cases (l.drop (i + 1)).findIdx? q with
    | none => rfl
    | some j => simp only [Option.map_some]; rw [show i + 1 + j = i + (j + 1) by omega]
theorem zqg {f : FuncId} {cs : List PV} {q : Int → Bool} {id : Nat} {cap : Option Nat} {Inv : Store → Prop} {l : List Int} (hq : ∀ σ,Inv σ → ∀ x ∈ l,zi cfg (ze cfg) f ([.int .i64 x] ++ cs) σ = some (.bool (q x),σ)) (hk : ∀ σ o,Inv σ → Inv (σ.put id o)) {len : Nat} (hl : len < 4611686018427387904) :
  ∀ (k i j : Nat) (σ : Store) (cur acc rest : List Int),j + k = len → i < j → Inv σ → σ.objs id = some (.cells 0 (cur.map ie)) → cur.length = len → cur.take i = acc → cur.drop j = rest → (∀ x ∈ rest,x ∈ l) →
  ∃ (τ : Store) (cur' : List Int),y2 cfg 45 zi4 (zig (.lsl id 1 0 len cap) (.func f cs) (i : Nat) (j : Nat)) σ = some (.exit 0,zhd (.lsl id 1 0 len cap) ((i + (rest.filter fun e => !q e).length : Nat) : Int),τ) ∧ Inv τ ∧
    τ.objs id = some (.cells 0 (cur'.map ie)) ∧ cur'.length = len ∧ cur'.take (i + (rest.filter fun e => !q e).length) = acc ++ rest.filter (fun e => !q e) ∧ Mod σ τ [id]
 | 0,i,j,σ,cur,acc,rest,hj,hij,hI,ho,hc,ha,hr,hm => by
   have hrest : rest = [] := by rw [← hr]; exact List.drop_of_length_le (by omega)
   subst hrest
   refine ⟨σ,cur,yi ((ztm _ _ _ _ _ _ _).trans ?_),hI,ho,hc,by simpa using ha,Mod.refl _ _⟩
   rw [zhj zcw,za,zb,if_neg (by simp; omega)]
   simp
 | k + 1,i,j,σ,cur,acc,rest,hj,hij,hI,ho,hc,ha,hr,hm => by
   have hjc : j < cur.length := by omega
   have hd : cur.drop j = cur[j] :: cur.drop (j + 1) := hbo hjc
   rw [hd] at hr
   have hld := ldN ho hjc
   generalize cur[j] = x at hr hld
   have hxl : x ∈ l := hm x (by rw [← hr]; exact .head _)
   have hbase := ztm (ze cfg) (y2 cfg) σ (.lsl id 1 0 len cap) (.func f cs) (i : Nat) (j : Nat)
   rw [zhj zcw,za,zb,if_pos (by simp; omega),zmn zcw oInt.1 (show j < len by omega),za,hld,za,zb,zmr,za,hq σ hI x hxl,za,zc] at hbase
   rw [← hr] at hm ⊢
   by_cases hb : q x = true
   ·rw [if_neg (by rw [hb]; decide),y6 (show j < 4611686018427387904 by omega)] at hbase
    obtain ⟨τ,cur',q1,q2,q3,q4,q5,q6⟩ := zqg hq hk hl k i (j + 1) σ cur acc (cur.drop (j + 1)) (by omega) (by omega) hI ho hc ha rfl (fun e he => hm e (.tail _ he))
    have hf : (x :: cur.drop (j + 1)).filter (fun e => !q e) = (cur.drop (j + 1)).filter (fun e => !q e) := by rw [List.filter_cons,hb]; rfl
    rw [hf]
    exact ⟨τ,cur',yi (hbase.trans q1),q2,q3,q4,q5,q6⟩
   ·have hb' : q x = false := by simpa using hb
    have hic : i < cur.length := by omega
    have hst := zyg (P := Try.prog) (t := 3) oInt.1 ho (hbe i) (zdf (f := ie) (haf hic)) rfl (v := .int .i64 x) rfl rfl
    have hst' : zu Try.prog σ 3 (.ref id (0 + i) 0) (.int .i64 x) = some (σ.put id (.cells 0 ((cur.set i x).map ie))) := by
     rw [hb4,hst,List.map_set]; rfl
    rw [if_pos (by rw [hb']; rfl),zmn zcw oInt.1 (show i < len by omega),za,hst',za,y6 (show i < 4611686018427387904 by omega),y6 (show j < 4611686018427387904 by omega)] at hbase
    have hdr : (cur.set i x).drop (j + 1) = cur.drop (j + 1) := List.drop_set_of_lt (by omega)
    obtain ⟨τ,cur',q1,q2,q3,q4,q5,q6⟩ := zqg hq hk hl k (i + 1) (j + 1) _ (cur.set i x) (acc ++ [x]) (cur.drop (j + 1)) (by omega) (by omega) (hk _ _ hI) (xa _ _ _) (by simpa using hc) (by
      rw [List.take_add_one,List.take_set_of_le (hah _),ha,ha3 (by omega)]
      rfl) hdr (fun e he => hm e (.tail _ he))
    have hf : (x :: cur.drop (j + 1)).filter (fun e => !q e) = x :: (cur.drop (j + 1)).filter (fun e => !q e) := by rw [List.filter_cons,hb']; rfl
    rw [hf]
    refine ⟨τ,cur',yi (hbase.trans ?_),q2,q3,q4,?_,?_⟩
    ·rw [q1]
     simp only [List.length_cons]
     rw [show i + 1 + ((cur.drop (j + 1)).filter fun e => !q e).length = i + (((cur.drop (j + 1)).filter fun e => !q e).length + 1) by omega]
    ·rw [List.length_cons,show i + (((cur.drop (j + 1)).filter fun e => !q e).length + 1) = i + 1 + ((cur.drop (j + 1)).filter fun e => !q e).length by omega,q5]
     simp
    ·exact (Mod.put (.head _)).trans' q6 (fun i hi => .inl hi)
theorem zwi {f : FuncId} {cs : List PV} {q : Int → Bool} {id : Nat} {Inv : Store → Prop} {l : List Int} (hq : ∀ σ,Inv σ → ∀ x ∈ l,zi cfg (ze cfg) f ([.int .i64 x] ++ cs) σ = some (.bool (q x),σ)) (hk : ∀ σ o,Inv σ → Inv (σ.put id o)) (hl : l.length < 1000000) (hI : Inv σ) (ho : σ.objs id = some (.cells 0 (l.map ie))) :
  ∃ (τ : Store) (full : List Int),ze cfg 45 [.lsl id 1 0 l.length none,.func f cs] σ = some (.lsl id 1 0 (l.filter fun e => !q e).length none,τ) ∧ Inv τ ∧ τ.objs id = some (.cells 0 (full.map ie)) ∧ full.length = l.length ∧ full.take (l.filter fun e => !q e).length = l.filter (fun e => !q e) ∧ Mod σ τ [id] := by
 have ev := zzv (ze cfg) (y2 cfg) σ (.lsl id 1 0 l.length none) (.func f cs)
 have ei := zzu (ze cfg) (y2 cfg) σ (.lsl id 1 0 l.length none) (.func f cs)
 have h0 := ztq (cap := none) (by omega) ho (hq σ hI) l.length 0 (by omega)
 rw [zp3,ha8] at h0
 rw [zhj zcw,za,zb,h0,za] at ei
 cases hf : l.findIdx? q with
 | none =>
   rw [hf] at ei
   simp only [ya,if_true] at ei
   have ci : zi cfg (ze cfg) 72 [.lsl id 1 0 l.length none,.func f cs] σ = some (.int .i64 (-1),σ) := by rw [zk rfl (by kernel_rfl)]; exact zf (hT _) ei
   rw [ci,za,zb,if_pos (by decide)] at ev
   have hfil : l.filter (fun e => !q e) = l := by
    rw [List.filter_eq_self]
    intro e he
    rw [List.findIdx?_eq_none_iff.1 hf e he]; rfl
   rw [hfil]
   exact ⟨σ,l,zf (hT _) ev,hI,ho,rfl,List.take_length,Mod.refl _ _⟩
 | some j =>
   obtain ⟨hjl,hpj,hbef⟩ := List.findIdx?_eq_some_iff_getElem.1 hf
   rw [hf] at ei
   simp only [y9,ret72_2_4,zb,hb4] at ei
   have ci : zi cfg (ze cfg) 72 [.lsl id 1 0 l.length none,.func f cs] σ = some (.int .i64 (j : Nat),σ) := by rw [zk rfl (by kernel_rfl)]; exact zf (hT _) ei
   rw [ci,za,zb,if_neg (by simp),y6 (by omega)] at ev
   obtain ⟨τ,cur',q1,q2,q3,q4,q5,q6⟩ := zqg (cap := none) hq hk (len := l.length) (by omega) (l.length - (j + 1)) j (j + 1) σ l (l.take j) (l.drop (j + 1)) (by omega) (by omega) hI ho rfl rfl rfl (fun e he => hbu he)
   have hsplit : l.filter (fun e => !q e) = l.take j ++ (l.drop (j + 1)).filter (fun e => !q e) := by
    have h1 : l = l.take j ++ (l[j] :: l.drop (j + 1)) := by rw [← hbo hjl,List.take_append_drop]
    have h2 : l.filter (fun e => !q e) = (l.take j).filter (fun e => !q e) ++ (l[j] :: l.drop (j + 1)).filter (fun e => !q e) := by rw [← List.filter_append,← h1]
    rw [h2,List.filter_cons,hpj]
    have h3 : (l.take j).filter (fun e => !q e) = l.take j := by
     rw [List.filter_eq_self]
     intro e he
     obtain ⟨i,hi,rfl⟩ := List.mem_iff_getElem.1 he
     rw [ha7] at hi
     have hb := hbef i (by omega)
     rw [List.getElem_take]
     simpa using hb
    rw [h3]
    simp
   have hkk : (l.filter fun e => !q e).length = j + ((l.drop (j + 1)).filter fun e => !q e).length := by rw [hsplit,hak,ha7,Nat.min_eq_left (by omega)]
   have hkl : j + ((l.drop (j + 1)).filter fun e => !q e).length ≤ l.length := by rw [← hkk]; exact List.length_filter_le _ _
   rw [hkk]
   generalize hK : j + ((l.drop (j + 1)).filter fun e => !q e).length = K at q1 q5 hkk hkl
   have hc1 := zh1 (P := Try.prog) (t := 50) (el := 3) (sz := 1) (id := id) (idx := 0) (len := l.length) (a := K) (b := l.length) (cap := none) (lo := some (.int .i64 (K : Nat))) (hi := none) zcw oInt.1 (x8 _ _ _) rfl hkl (hah _) (fun c h => by cases h)
   have hc2 := zh1 (P := Try.prog) (t := 50) (el := 3) (sz := 1) (id := id) (idx := 0) (len := l.length) (a := 0) (b := K) (cap := none) (lo := none) (hi := some (.int .i64 (K : Nat))) zcw oInt.1 rfl (x8 _ _ _) (hbe _) hkl (fun c h => by cases h)
   have hclr := zq5 (P := Try.prog) (t := 50) (el := 3) (sz := 1) (z := .int .i64 0) (cap := none) zcw oInt.1 (by decide) (by kernel_rfl) rfl rfl rfl q3 (show 0 + K + (l.length - K) ≤ (cur'.map ie).length by simp; omega) (hbe _)
   simp only [Option.map_none,hb4,Nat.sub_zero,Nat.add_zero] at hc1 hc2 hclr
   rw [q1,za] at ev
   simp only [ya,out45_5_0,out45_5_5,zb,if_true,hc1,za,hclr,hc2] at ev
   have hmap : (cur'.map ie).take K ++ List.replicate (l.length - K) (PV.int .i64 0).cells ++ (cur'.map ie).drop (K + (l.length - K)) = (cur'.take K ++ List.replicate (l.length - K) 0 ++ cur'.drop (K + (l.length - K))).map ie := by
    rw [List.map_append,List.map_append,List.map_take,List.map_drop,List.map_replicate]; rfl
   rw [hmap] at ev
   refine ⟨_,_,zf (hT _) ev,hk _ _ q2,xa _ _ _,?_,?_,q6.trans' (Mod.put (.head _)) (fun i hi => .inl hi)⟩
   ·simp; omega
   ·rw [hsplit,← q5,hbc,List.take_append_of_le_length (by rw [ha7]; omega),List.take_take,Nat.min_self]
end
end Go.Pvm.S
