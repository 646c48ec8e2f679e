/- Part of the proof: edges: doubles struck; a transaction's span; the victim of a danger. -/
import Derived.Test.YtjfgklgcbogejaaGreatEdgeE
set_option linter.unusedSimpArgs false
set_option linter.unusedVariables false
set_option maxRecDepth 100000
namespace Go.Pvm.S
open Go.Pvm Go.Proofs
def dd : Int → List Int → List Int
 | _,[] => []
 | p,b :: l => if (b != p) = true then b :: dd b l else dd b l
def zla : List Int → List Int
 | [] => []
 | a :: l => a :: dd a l
theorem zvm : ∀ (l : List Int) (p : Int),(dd p l).length ≤ l.length
 | [],_ => Nat.le_refl _
 | b :: l,p => by
   unfold dd
   have := zvm l b
   split
   ·simp only [List.length_cons]; omega
   ·simp only [List.length_cons]; omega
theorem ztt (n : Int) : xy Tryz.prog 3 (ie n) 0 = some (.int .i64 n) := by kernel_rfl
theorem z7p {α : Type} {K l : List α} {j : Nat} (h : K.length ≤ j) : (K ++ l.drop K.length)[j]? = l[j]? := by
 rw [List.getElem?_append_right h,List.getElem?_drop]
 congr 1; omega
theorem z7u {α : Type} {K l : List α} {a : α} (h : K.length < l.length) : (K ++ l.drop K.length).set K.length a = (K ++ [a]) ++ l.drop (K ++ [a]).length := by
 rw [List.set_append_right _ _ (Nat.le_refl _),Nat.sub_self,List.drop_eq_getElem_cons h]
 show K ++ a :: l.drop (K.length + 1) = _
 rw [List.length_append,List.append_assoc]; rfl
theorem z7o {α : Type} {K l : List α} (h : K.length ≤ l.length) : (K ++ l.drop K.length).length = l.length := by rw [List.length_append,List.length_drop]; omega
theorem zvu (l : List Int) (hl : l.length < 1073741824) (k0 : Nat) (hk0 : k0 ≤ l.length) : ∀ (d j : Nat) (K : List Int) (p : Int),k0 + j + d = l.length → 1 ≤ j → K.length + 1 ≤ k0 + j → l[k0 + j - 1]? = some p →
  Lω 141 zdx 1 (zb6 (K.length : Nat) k0 (l.length - k0) (j : Nat)) [.made true 1 ((K ++ l.drop K.length).map ie)] =
  some (.exit 2,mkS 61 [(0,whole 0 1),(3,.int .i64 ((K ++ dd p (l.drop (k0 + j))).length : Nat))],[.made true 1 (((K ++ dd p (l.drop (k0 + j))) ++ l.drop (K ++ dd p (l.drop (k0 + j))).length).map ie)])
 | 0,j,K,p,hd,hj,hK,hp => by
   refine lw ?_
   rw [zp3,if_neg (by rw [decide_eq_true_eq]; omega),List.drop_of_length_le (show l.length ≤ k0 + j by omega)]
   rw [show dd p [] = [] from rfl,List.append_nil]
 | d + 1,j,K,p,hd,hj,hK,hp => by
   have hjl : k0 + j < l.length := by omega
   have hg := List.getElem?_eq_getElem hjl
   refine lw ?_
   have e1 : (K ++ l.drop K.length)[k0 + j]? = some l[k0 + j] := by rw [z7p (by omega),hg]
   have e2 : (K ++ l.drop K.length)[k0 + (j - 1)]? = some p := by rw [z7p (by omega),← hp]; congr 1; omega
   have e3 : (K ++ l.drop K.length).length = l.length := z7o (by omega)
   rw [zp3,if_pos (by rw [decide_eq_true_eq]; omega),if_pos ⟨nn _,by omega⟩,zbl (by omega) (by omega),Int.toNat_natCast,Int.toNat_natCast,y9 e1,y9 e2]
   simp only [zb,ztt,zw]
   rw [if_pos ⟨nn _,by omega⟩]
   rw [List.drop_eq_getElem_cons hjl]
   unfold dd
   by_cases hne : (l[k0 + j] != p) = true
   ·rw [if_pos hne,if_pos hne,if_pos ⟨nn _,by omega⟩,if_pos ⟨nn _,by rw [List.length_map,e3]; omega⟩,Int.toNat_natCast,if_pos (by rw [List.length_map,e3]; omega),yr (by omega),yr (by omega)]
    show Lω _ _ _ (zb6 ((K.length + 1 : Nat)) _ _ _) [.made true 1 (List.set ((K ++ l.drop K.length).map ie) K.length (ie l[k0 + j]))] = _
    rw [map_set,z7u (show K.length < l.length by omega)]
    have ih := zvu l hl k0 hk0 d (j + 1) (K ++ [l[k0 + j]]) l[k0 + j] (by omega) (by omega) (by rw [List.length_append]; show K.length + 1 + 1 ≤ _; omega) (by rw [← hg]; congr 1)
    rw [show K ++ l[k0 + j] :: dd l[k0 + j] (l.drop (k0 + j + 1)) = (K ++ [l[k0 + j]]) ++ dd l[k0 + j] (l.drop (k0 + (j + 1))) from (by rw [List.append_assoc]; rfl)]
    have hn : (K ++ [l[k0 + j]]).length = K.length + 1 := by rw [List.length_append]; rfl
    rw [hn] at ih ⊢
    exact ih
   ·rw [if_neg hne,if_neg hne,yr (by omega)]
    have ih := zvu l hl k0 hk0 d (j + 1) K l[k0 + j] (by omega) (by omega) (by omega) (by rw [← hg]; congr 1)
    exact ih
theorem zvt (l : List Int) (hl : l.length < 1073741824) : ∀ (d k : Nat) (p : Int),k + d = l.length → 1 ≤ k → l[k - 1]? = some p →
  ∃ r,Lω 141 zdy 1 (zf7 (k : Nat)) [.made true 1 (l.map ie)] = some r ∧
  ((r = (.exit 0,mkS 61 [(0,whole 0 1)],[.made true 1 (l.map ie)]) ∧ dd p (l.drop k) = l.drop k) ∨ ∃ n tl,r = (.ret,mkS 61 [(2,wb 0 1 0 n)],[.made true 1 ((l.take k ++ dd p (l.drop k)).map ie ++ tl)]) ∧ n = (l.take k ++ dd p (l.drop k)).length)
 | 0,k,p,hd,hk,hp => by
   refine ⟨_,lw (by rw [zp4,List.length_map,if_neg (by rw [decide_eq_true_eq]; omega)]),.inl ⟨rfl,?_⟩⟩
   rw [List.drop_of_length_le (by omega)]; rfl
 | d + 1,k,p,hd,hk,hp => by
   have hkl : k < l.length := by omega
   have hg := List.getElem?_eq_getElem hkl
   have ev := zp4 Cω Lω (k : Nat) (l.map ie)
   rw [List.length_map,if_pos (by rw [decide_eq_true_eq]; omega),if_pos ⟨nn _,by omega⟩,zbl (by omega) (by omega),Int.toNat_natCast,Int.toNat_natCast,y9 hg,y9 hp] at ev
   simp only [zb,ztt,zw] at ev
   rw [if_pos ⟨nn _,by omega⟩] at ev
   rw [List.drop_eq_getElem_cons hkl]
   unfold dd
   by_cases he : l[k] = p
   ·rw [if_pos (by rw [beq_iff_eq]; exact he),zhh,zb,if_pos ⟨by omega,Nat.le_refl _⟩] at ev
    have hin := zvu l hl k (by omega) (d) 1 (l.take k) l[k] (by omega) (by omega) (by rw [List.length_take]; omega) (by rw [← hg]; congr 1)
    have hlt : (l.take k).length = k := by rw [List.length_take]; omega
    have htd : l.take k ++ l.drop (l.take k).length = l := by rw [hlt]; exact List.take_append_drop k l
    rw [htd,hlt] at hin
    rw [if_neg (by rw [bne_iff_ne]; exact fun h => h he)]
    have hM : (l.take k ++ dd l[k] (l.drop (k + 1))).length ≤ l.length := by
     rw [List.length_append,hlt]
     have := zvm (l.drop (k + 1)) l[k]
     rw [List.length_drop] at this
     omega
    generalize hMd : l.take k ++ dd l[k] (l.drop (k + 1)) = M at hin hM ⊢
    have hlen : (((M ++ l.drop M.length).map ie)).length = l.length := by rw [List.length_map]; exact z7o hM
    have htk : ((M ++ l.drop M.length).map ie).take M.length = M.map ie := by
     rw [List.map_append,List.take_append_of_le_length (by rw [List.length_map]; exact Nat.le_refl _),List.take_of_length_le (by rw [List.length_map]; exact Nat.le_refl _)]
    rw [show (((1 : Nat) : Int)) = 1 from rfl] at hin
    rw [hin] at ev
    simp only [zw,ze,z8,yj,yk,zu,zt,zf,zq,zx,zy,za,zh,zl,z7,ym,zi,zd,zm,zz,zg,zk,zj,zp,yg,zr,yh,yl,ye,yf,ya,zn,yd,zo,yc,yb,yp,zb,z6,yi,y3,yz,ne_eq,not_false_eq_true,Nat.reduceLT,Nat.reduceEqDiff,if_true,zhh,hlen,htk,hM,Nat.le_refl,and_true,true_and,Nat.zero_le,Nat.sub_zero] at ev
    rw [if_pos (by rw [List.length_append,List.length_append,List.length_map,List.length_replicate]; omega)] at ev
    refine ⟨_,lw ev,.inr ⟨M.length,List.replicate (l.length - M.length) (ie 0) ++ List.drop (M.length + (l.length - M.length)) ((M ++ l.drop M.length).map ie),?_,rfl⟩⟩
    rw [← List.append_assoc]
    rfl
   ·rw [if_neg (by rw [beq_iff_eq]; exact he),yr (by omega)] at ev
    obtain ⟨r,h1,h2⟩ := zvt l hl d (k + 1) l[k] (by omega) (by omega) (by rw [← hg]; congr 1)
    rw [if_pos (by rw [bne_iff_ne]; exact he)]
    have htk : l.take (k + 1) = l.take k ++ [l[k]] := List.take_succ_eq_append_getElem hkl
    rw [htk] at h2
    have hc : ∀ X : List Int,l.take k ++ [l[k]] ++ X = l.take k ++ l[k] :: X := fun X => by rw [List.append_assoc]; rfl
    rw [hc] at h2
    refine ⟨r,lw (ev.trans h1),?_⟩
    rcases h2 with ⟨e,e2⟩ | h2
    ·exact .inl ⟨e,by rw [e2]⟩
    ·exact .inr h2
theorem zou : ∀ {l : List Int},l.length < 2 → zla l = l
 | [],_ => rfl
 | [a],_ => rfl
 | a :: b :: l,h => by simp only [List.length_cons] at h; omega
theorem z4t (l : List Int) (hl : l.length < 1073741824) : Cω 141 [whole 0 1] [.made true 1 (l.map ie)] = some (whole 1 1,[.dead,.made true 1 ((zla l).map ie)]) := by
 have ev := z4c Cω Lω (l.map ie)
 rw [List.length_map] at ev
 by_cases h : l.length < 2
 ·rw [if_pos (by rw [decide_eq_true_eq]; omega)] at ev
  rw [zou h]
  exact cw ev
 ·rw [if_neg (by rw [decide_eq_true_eq]; omega)] at ev
  cases l with
  | nil => exact absurd (Nat.zero_lt_succ 1) h
  | cons a t =>
    obtain ⟨r,h1,h2⟩ := zvt (a :: t) hl t.length 1 a (by rw [List.length_cons]; omega) (Nat.le_refl _) rfl
    rw [show (((1 : Nat) : Int)) = 1 from rfl] at h1
    rw [h1] at ev
    have e0 : (a :: t).take 1 ++ dd a ((a :: t).drop 1) = zla (a :: t) := rfl
    rw [e0] at h2
    rcases h2 with ⟨rfl,e⟩ | ⟨n,tl,rfl,rfl⟩
    ·simp only [zw,ze,z8,yj,yk,zu,zt,zf,zq,zx,zy,za,zh,zl,z7,ym,zi,zd,zm,zz,zg,zk,zj,zp,yg,zr,yh,yl,ye,yf,ya,zn,yd,zo,yc,yb,yp,zb,z6,yi,y3,yz,ne_eq,not_false_eq_true,Nat.reduceLT,Nat.reduceEqDiff,if_true] at ev
     rw [show zla (a :: t) = a :: t from (by show a :: dd a t = _; rw [show dd a t = t from e])]
     exact cw ev
    ·simp only [zw,ze,z8,yj,yk,zu,zt,zf,zq,zx,zy,za,zh,zl,z7,ym,zi,zd,zm,zz,zg,zk,zj,zp,yg,zr,yh,yl,ye,yf,ya,zn,yd,zo,yc,yb,yp,zb,z6,yi,y3,yz,ne_eq,not_false_eq_true,Nat.reduceLT,Nat.reduceEqDiff,if_true] at ev
     rw [List.take_append_of_le_length (by rw [List.length_map]; exact Nat.le_refl _),List.take_of_length_le (by rw [List.length_map]; exact Nat.le_refl _)] at ev
     exact cw ev
def spn (s : List Spn) (tx : Int) : Spn × Bool := match s.find? (fun a => a.t == tx) with
 | some a => (a,true)
 | none => (⟨0,0,0⟩,false)
theorem zjg {s : List Spn} (h : ka s = true) : ∀ i a b,s[i]? = some a → s[i + 1]? = some b → a.t < b.t := by
 unfold ka at h
 rw [Bool.and_eq_true,qu] at h
 intro i a b ha hb
 have h2 := h.2 (i + 1) b hb
 unfold okS at h2
 rw [Nat.zero_add] at h2
 simp only [Bool.and_eq_true,Bool.or_eq_true,Bool.not_eq_true',Bool.not_eq_true,Bool.false_eq_true,Bool.true_eq_false,decide_eq_true_eq,decide_eq_false_iff_not,beq_iff_eq,beq_eq_false_iff_ne,bne_iff_ne,ne_eq,ge_iff_le,gt_iff_lt,if_true,if_false,false_and,true_and,and_true,and_false,false_or,true_or,or_true,or_false,Bool.not_true,Bool.not_false,decide_true,decide_false,Bool.and_true,Bool.true_and,Bool.false_and,Bool.and_false,Bool.or_true,Bool.true_or,Bool.false_or,Bool.or_false,not_true,not_false_eq_true,Int.not_lt,Int.not_le,Decidable.not_not] at h2
 have h3 := h2.2.2.2.2
 rcases h3 with h3 | h3
 ·omega
 ·rw [Nat.add_sub_cancel,List.getD_eq_getElem?_getD,ha] at h3
  exact h3
theorem z2l (s : List Spn) (tx : Int) (hl : s.length < 1073741824) (hm : ka s = true) : yn Cω 170 [.psl false (s.map Spn.e),.int .i64 tx] = some (.tuple [.agg (spn s tx).1.e,.bool (spn s tx).2]) := by
 have ev := z3y Cω Lω (s.map Spn.e) tx
 have hch : ∀ (i j : Nat) (a b : Spn),i < j → s[i]? = some a → s[j]? = some b → a.t < b.t := fun i j a b hij ha hb => u6 (lt := fun a b : Spn => a.t < b.t) (fun a b c h1 h2 => Int.lt_trans h1 h2) (zjg hm) hij ha hb
 have hlt : ∀ a b : Int,(uo a b < 0 ↔ a < b) := fun a b => by rcases j1 a b with ⟨h,e⟩ | ⟨h,e⟩ | ⟨h,e⟩ <;> rw [e] <;> constructor <;> intro _ <;> first | omega | decide
 have heq : ∀ a b : Int,(uo a b = 0 ↔ a = b) := fun a b => by rcases j1 a b with ⟨h,e⟩ | ⟨h,e⟩ | ⟨h,e⟩ <;> rw [e] <;> constructor <;> intro _ <;> first | omega | decide
 obtain ⟨h1,h2⟩ := zam (q := fun a : Spn => decide (uo a.t tx < 0)) (l := s) fun i j a b hij ha hb hq => by
  have := hch i j a b hij ha hb
  rw [decide_eq_true_eq,hlt] at hq ⊢
  omega
 have hb := z4w s tx hl _ h1 (fun k a hk => by have h3 := h2 k a hk; rw [decide_eq_true_eq] at h3; exact h3)
 generalize (s.takeWhile fun a : Spn => decide (uo a.t tx < 0)).length = p at h1 h2 hb
 unfold spn
 cases hf : s.find? (fun a => a.t == tx) with
 | some a =>
   have ha : (a.t == tx) = true := List.find?_some (p := fun a : Spn => a.t == tx) hf
   rw [beq_iff_eq] at ha
   obtain ⟨k,hk⟩ := List.mem_iff_getElem?.1 (List.mem_of_find?_eq_some hf)
   have hkp : k = p := by
    have n1 : ¬ k < p := fun h => by have := (h2 k a hk).2 h; rw [decide_eq_true_eq,hlt] at this; omega
    by_cases hlt2 : p < k
    ·have hkl := (List.getElem?_eq_some_iff.1 hk).1
     have hg := List.getElem?_eq_getElem (show p < s.length by omega)
     have := hch _ _ _ _ hlt2 hg hk
     have h3 : p < p := (h2 p _ hg).1 (by rw [decide_eq_true_eq,hlt]; omega)
     omega
    ·omega
   subst hkp
   have h0 : (uo a.t tx == 0) = true := by rw [beq_iff_eq,heq]; exact ha
   have hb' : yn Cω 83 [.psl false (s.map Spn.e),.int .i64 tx,.func 183 []] = some (.tuple [.int .i64 (k : Nat),.bool true]) := by
    rw [hb,hk]
    show some (PV.tuple [_,PV.bool (uo a.t tx == 0)]) = _
    rw [h0]
   rw [hb'] at ev
   simp only [zw,ze,z8,yj,yk,zu,zt,zf,zq,zx,zy,za,zh,zl,z7,ym,zi,zd,zm,zz,zg,zk,zj,zp,yg,zr,yh,yl,ye,yf,ya,zn,yd,zo,yc,yb,yp,zb,z6,yi] at ev
   rw [if_neg (by decide),if_pos (nn _),Int.toNat_natCast,y9 hk] at ev
   simp only [Spn.e,zw,ze,z8,yj,yk,zu,zt,zf,zq,zx,zy,za,zh,zl,z7,ym,zi,zd,zm,zz,zg,zk,zj,zp,yg,zr,yh,yl,ye,yf,ya,zn,yd,zo,yc,yb,yp,zb,z6,yi] at ev
   exact pc ev rfl
 | none =>
   have hno : ∀ (k : Nat) (a : Spn),s[k]? = some a → ¬ a.t = tx := fun k a hk he => by
    have := List.find?_eq_none.1 hf a (List.mem_iff_getElem?.2 ⟨k,hk⟩)
    rw [beq_iff_eq] at this
    exact this he
   have hb' : yn Cω 83 [.psl false (s.map Spn.e),.int .i64 tx,.func 183 []] = some (.tuple [.int .i64 (p : Nat),.bool false]) := by
    rw [hb]
    cases hg : s[p]? with
    | none => rfl
    | some a =>
      have h0 : (uo a.t tx == 0) = false := by
       rw [beq_eq_false_iff_ne,ne_eq,heq]
       exact hno p a hg
      show some (PV.tuple [_,PV.bool (uo a.t tx == 0)]) = _
      rw [h0]
   rw [hb'] at ev
   simp only [zw,ze,z8,yj,yk,zu,zt,zf,zq,zx,zy,za,zh,zl,z7,ym,zi,zd,zm,zz,zg,zk,zj,zp,yg,zr,yh,yl,ye,yf,ya,zn,yd,zo,yc,yb,yp,zb,z6,yi] at ev
   rw [if_pos (by decide)] at ev
   exact pc ev rfl
def ahd (a c : Spn) : Bool := (a.c != 0) && decide (a.c < c.c)
theorem ztc (a c : Spn) : yn Cω 171 [.agg a.e,.agg c.e] = some (.bool (ahd a c)) := by
 have ev := z3x Cω Lω a.t a.b a.c c.t c.b c.c
 unfold ahd
 cases h : (a.c != 0)
 ·rw [h] at ev
  exact pc ev rfl
 ·rw [h] at ev
  exact pc ev rfl
def vic (s : List Spn) (a b c : Int) : Int :=
 if ((spn s a).2 && (spn s b).2 && (spn s c).2 && !((spn s c).1.c == 0) && !((a != c) && ahd (spn s a).1 (spn s c).1) && !(ahd (spn s b).1 (spn s c).1)) = true
 then if ((spn s b).1.c == 0) = true then b else if ((spn s a).1.c == 0) = true then a else 0
 else 0
theorem zwl (s : List Spn) (a b c : Int) (hl : s.length < 1073741824) (hm : ka s = true) : yn Cω 139 [.psl false (s.map Spn.e),.int .i64 a,.int .i64 b,.int .i64 c] = some (.int .i64 (vic s a b c)) := by
 have ev := z4d Cω Lω (s.map Spn.e) a b c
 have ha := ztc (spn s a).1 (spn s c).1
 have hb := ztc (spn s b).1 (spn s c).1
 simp only [Spn.e] at ha hb
 simp only [z2l s _ hl hm,Spn.e,zw,ze,z8,yj,yk,zu,zt,zf,zq,zx,zy,za,zh,zl,z7,ym,zi,zd,zm,zz,zg,zk,zj,zp,yg,zr,yh,yl,ye,yf,ya,zn,yd,zo,yc,yb,yp,zb,z6,yi,ha,hb] at ev
 unfold vic
 refine pc (v := .int .i64 _) (A := []) ?_ rfl
 rw [ev]
 cases (spn s a).2 <;> cases (spn s b).2 <;> cases (spn s c).2 <;> cases ((spn s c).1.c == 0) <;> cases (a != c) <;> cases ahd (spn s a).1 (spn s c).1 <;> cases ahd (spn s b).1 (spn s c).1 <;> cases ((spn s b).1.c == 0) <;> cases ((spn s a).1.c == 0) <;> rfl
end Go.Pvm.S
