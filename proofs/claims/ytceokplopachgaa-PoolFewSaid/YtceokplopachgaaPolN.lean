/- Part of the proof: pools are made; light acts; a pool's state as a whole. -/
import Derived.Test.YtceokplopachgaaPolM
set_option linter.unusedSimpArgs false
set_option linter.unusedVariables false
set_option maxRecDepth 100000
namespace Go.Pvm.S
open Go.Pvm Go.Proofs
structure Ac where
 d : Int
 g : Int
 b : By
 n : Int
 p : List Bool
def Ac.e (a : Ac) : List PV := [.int .i64 a.d,.int .i64 a.g,bv a.b,.int .i64 a.n,.psl false (a.p.map bo)]
theorem zuc (l : List Ac) (hl : l.length < 4611686018427387904) : ∃ b : Bool,jm Cω 10 [.psl false (l.map Ac.e)] = some (.bool b) := by
 have key : ∀ (k i : Nat) (s : Int),i + k = l.length → ∃ x,Lω 10 zbv 0 (zbj (l.map Ac.e) s (i : Nat)) [] = some x ∧ (x = (.exit 0,mkS 41 [],[]) ∨ ∃ b : Bool,x = (.ret,mkS 41 [(2,.bool b)],[])) := by
  intro k
  induction k with
  | zero =>
    intro i s hi
    refine ⟨_,lw (by rw [zqa,if_neg (by rw [decide_eq_true_eq,List.length_map]; omega)]),.inl rfl⟩
  | succ k ih =>
    intro i s hi
    have hw := List.getElem?_eq_getElem (show i < l.length by omega)
    have ev := zqa Cω Lω (l.map Ac.e) s (i : Nat)
    have hm := zw2 (f := Ac.e) hw
    rw [if_pos (by rw [decide_eq_true_eq,List.length_map]; omega),Int.toNat_natCast,hm] at ev
    generalize l[i] = a at ev
    have hae : a.e = [.int .i64 a.d,.int .i64 a.g,.psl false (a.b.map cB),.int .i64 a.n,.psl false (a.p.map bo)] := rfl
    have hi0 : (0 : Int) ≤ ((i : Nat) : Int) := by omega
    simp only [hae,zb,zc,ye,xb,xc,y1,yq,zo,yl,ym,yk,zm,zx,yd,yp,xw,zy,zl,yf,yo,zr,z6,zz,yn,yz,yy,xd,xe,yw,yx,yr,yg,yv,yh,yu,yt,vn,za,ya,y9,if_pos hi0,y6 (show i < 4611686018427387904 by omega)] at ev
    by_cases c0 : decide (((i : Nat) : Int) < 40) = true
    case neg => rw [if_neg c0] at ev; exact ⟨_,lw ev,.inl rfl⟩
    rw [if_pos c0] at ev
    have nxt : ∀ t,jj cfg za5 Cω Lω 10 zbv 0 (zbj (l.map Ac.e) s (i : Nat)) [] = Lω 10 zbv 0 (zbj (l.map Ac.e) t ((i + 1 : Nat) : Int)) [] → ∃ x,Lω 10 zbv 0 (zbj (l.map Ac.e) s (i : Nat)) [] = some x ∧ (x = (.exit 0,mkS 41 [],[]) ∨ ∃ b : Bool,x = (.ret,mkS 41 [(2,.bool b)],[])) := fun t h => by
     obtain ⟨x,x1,x2⟩ := ih (i + 1) t (by omega)
     exact ⟨x,lw (h.trans x1),x2⟩
    repeat' (split at ev)
    all_goals first
     | exact ⟨_,lw ev,.inl rfl⟩
     | exact ⟨_,lw ev,.inr ⟨_,rfl⟩⟩
     | exact nxt _ ev
 have ev := zzj Cω Lω (l.map Ac.e)
 obtain ⟨x,x1,x2⟩ := key l.length 0 0 (by omega)
 rw [zp3] at x1
 rw [x1] at ev
 rcases x2 with rfl | ⟨b,rfl⟩
 ·simp only [zb,zc,ye,xb,xc,y1,yq,zo,yl,ym,yk,zm,zx,yd,yp,xw,zy,zl,yf,yo,zr,z6,zz,yn,yz,yy,xd,xe,yw,yx,yr,yg,yv,yh,yu,yt,vn,za,ya,y9,if_true] at ev
  exact ⟨true,pc ev rfl⟩
 ·have g1 : List.getD (mkS 41 [(2,PV.bool b)]) 2 .undef = .bool b := rfl
  simp only [zb,zc,ye,xb,xc,y1,yq,zo,yl,ym,yk,zm,zx,yd,yp,xw,zy,zl,yf,yo,zr,z6,zz,yn,yz,yy,xd,xe,yw,yx,yr,yg,yv,yh,yu,yt,vn,za,ya,y9,g1] at ev
  exact ⟨b,pc ev rfl⟩
def RA : ElR Ac := fun e a => ∃ u v,e = [.int .i64 a.d,.int .i64 a.g,u,.int .i64 a.n,v] ∧ IsS RB u a.b ∧ IsS RBo v a.p
theorem plA {u v : PV} (hu : u.plain = true) (hv : v.plain = true) (x y z : Int) : ∀ c ∈ [.int .i64 x,.int .i64 y,u,.int .i64 z,v],c.plain = true := by
 intro c hc
 simp only [List.mem_cons,List.not_mem_nil,or_false] at hc
 rcases hc with rfl | rfl | rfl | rfl | rfl
 ·rfl
 ·rfl
 ·exact hu
 ·rfl
 ·exact hv
theorem okA : ROk 5 RA := ⟨fun e m h => by obtain ⟨u,v,rfl,_⟩ := h; rfl,fun e m h c hc => by
 obtain ⟨u,v,rfl,hu,hv⟩ := h
 exact plA hu.plain hv.plain _ _ _ c hc⟩
theorem TA : SlT Try.prog 22 36 5 72 := ⟨by kernel_rfl,by kernel_rfl,by kernel_rfl,⟨.agg [.int .i64 0,.int .i64 0,.nilsl,.int .i64 0,.nilsl],by kernel_rfl,rfl,rfl⟩,by decide,by decide⟩
theorem VF.bos {l : List Bool} {p : PV} (h : VF (.psl false (l.map bo)) p) : IsS RBo p l := by
 generalize hq : l.map bo = es at h
 cases h with
 | base h => cases ‹PV.base _ = true›
 | psl b b' h =>
   subst hq
   have hp := zfo (e := bo) (fun a => rfl) h
   subst hp
   refine ⟨_,.inr ⟨b',rfl⟩,?_⟩
   clear h
   induction l with
   | nil => exact .nil
   | cons a l ih => exact .cons rfl ih
 | nl b =>
   have : l = [] := by cases l <;> first | rfl | cases hq
   subst this
   exact .nil
theorem VFs.act {a : Ac} {e : List PV} (h : VFs a.e e) : RA e a := by
 unfold Ac.e at h
 cases h with | cons a0 h => cases h with | cons a1 h => cases h with | cons a2 h => cases h with | cons a3 h => cases h with | cons a4 h =>
 cases h
 rw [a0.base_eq rfl,a1.base_eq rfl,a3.base_eq rfl]
 exact ⟨_,_,rfl,VF.by_ a2,VF.bos a4⟩
theorem VF.acts {l : List Ac} {p : PV} (h : VF (.psl false (l.map Ac.e)) p) : IsS RA p l := by
 generalize hq : l.map Ac.e = es at h
 cases h with
 | base h => cases ‹PV.base _ = true›
 | psl b b' h =>
   subst hq
   refine ⟨_,.inr ⟨b',rfl⟩,?_⟩
   rename_i ps
   induction l generalizing ps with
   | nil => cases h; exact .nil
   | cons a l ih =>
     cases h with
     | cons h t => exact .cons (VFs.act h) (ih t)
 | nl b =>
   have : l = [] := by cases l <;> first | rfl | cases hq
   subst this
   exact .nil
structure St (P n w t : Nat) (T : Int) (did pid mid : Nat) (g : Nat → Nat) (σ : Store) (p : Po) : Prop where
 d : DevS g σ did p.d
 r : ∃ vs ids,PoR g σ pid did mid p vs ids
 a : PoA P n T p
 l : Lim w t p
section
variable {P n w t : Nat} {T : Int} {did pid mid : Nat} {g g' : Nat → Nat} {σ τ : Store} {p : Po} {u : PV} {b : By}
theorem St.mono {w' t' : Nat} (h : St P n w t T did pid mid g σ p) (h1 : w ≤ w') (h2 : t ≤ t') : St P n w' t' T did pid mid g σ p := ⟨h.d,h.r,h.a,h.l.mono h1 h2⟩
theorem St.push (h : St P n w t T did pid mid g σ p) (o : Obj) : St P n w t T did pid mid g (σ.push o) p :=
 let ⟨vs,ids,r⟩ := h.r
 ⟨h.d.push o,⟨vs,ids,r.push o⟩,h.a,h.l⟩
theorem PoR.retag {vs : PV} {ids : List Nat} (r : PoR g σ pid did mid p vs ids) (hg : ∀ i,i < σ.next → g' i = g i) : PoR g' σ pid did mid p vs ids := r.mod ⟨Nat.le_refl _,fun _ _ _ => rfl⟩ hg
theorem St.retag (h : St P n w t T did pid mid g σ p) (hg : ∀ i,i < σ.next → g' i = g i) : St P n w t T did pid mid g' σ p :=
 let ⟨vs,ids,r⟩ := h.r
 ⟨h.d.retag hg,⟨vs,ids,PoR.retag r hg⟩,h.a,h.l⟩
theorem St.box (h : St P n w t T did pid mid g σ p) (o : Obj) (k : Nat) : St P n w t T did pid mid (tag g σ.next k) (σ.push o) p ∧ OutP g σ (tag g σ.next k) (σ.push o) :=
 ⟨(h.retag fun i hi => je hi).push o |> fun h => h,⟨Nat.le_succ _,fun i hi => je hi,fun i hi _ => .inl (yj hi)⟩⟩
theorem St.put (h : St P n w t T did pid mid g σ p) {i : Nat} (hi : 7 = g i ∨ 11 ≤ g i) (o : Obj) : St P n w t T did pid mid g (σ.put i o) p := by
 obtain ⟨vs,ids,r⟩ := h.r
 have hne : ∀ j,8 ≤ g j → g j ≤ 10 → j ≠ i := fun j h1 h2 e => by subst e; omega
 refine ⟨h.d.mod (Mod.put (ids := [i]) (.head _)) fun j hj _ => by rw [List.mem_singleton.1 hj]; omega,⟨vs,ids,?_⟩,h.a,h.l⟩
 exact {
  g9 := r.g9,gA := r.gA,lp := r.lp,lm := r.lm
  po := (yb (hne pid (by rw [r.g9]; decide) (by rw [r.g9]; decide))).trans r.po
  sp := r.sp
  mo := (yb (hne mid (by rw [r.gA]; decide) (by rw [r.gA]; decide))).trans r.mo
  il := r.il,nd := r.nd
  sh := fun j hj => by
   obtain ⟨h1,h2,u,h3,h4⟩ := r.sh j hj
   exact ⟨h1,h2,u,(yb (hne _ (by rw [h1]; decide) (by rw [h1]; decide))).trans h3,h4⟩ }
theorem St.read (h : St P n w t T did pid mid g σ p) (hP : P ≤ 64) (hT' : T ≤ 900000000) (hw : w ≤ 300000) (ht : t ≤ 300000) (k : Int) :
  ∃ g' τ u,ze cfg 16 [.ref pid 0 0,.int .i64 k] σ = some (.tuple [u,.int .i64 (if 0 ≤ k ∧ k < P then 0 else 3)],τ) ∧ St P n (w + 4) t T did pid mid g' τ (if 0 ≤ k ∧ k < P then p.letP k else p) ∧ OutP g σ g' τ ∧ (∀ i ∈ tops u,7 ≤ g' i) ∧ QS RB τ 1 u (if 0 ≤ k ∧ k < P then p.val k else []) ∧ (0 ≤ k ∧ k < P → AxS RB τ 1 u (p.val k) ∧ ∀ i ∈ tops u,g' i = 7) := by
 obtain ⟨vs,ids,r⟩ := h.r
 have l1 := h.l.w
 have l2 := h.l.t
 by_cases c : 0 ≤ k ∧ k < P
 ·obtain ⟨g',τ,vs',ids',u,h1,h2,h3,h4,h5,h6⟩ := zub h.d r h.a.k hP hT' (by omega) (by omega) c (h.a.len hP c)
  obtain ⟨k1,k2,_⟩ := h.a.letP hP c
  rw [k2 k c.1 c.2] at h2
  simp only [if_pos c]
  exact ⟨g',τ,u,h1,⟨h4,⟨vs',ids',h5⟩,k1,h.l.letP k⟩,h6,fun i hi => Nat.le_of_eq (h3 i hi).symm,h2.q,fun _ => ⟨h2,h3⟩⟩
 ·simp only [if_neg c]
  exact ⟨g,σ,.nilsl,zpd h.d r h.a.k.iv.pl hP (by omega),h.mono (by omega) (Nat.le_refl _),OutP.refl _ _,(fun i hi => by cases hi),IsS.nil.q _ _,fun c' => absurd c' c⟩
theorem St.putP (h : St P n w t T did pid mid g σ p) (hP : P ≤ 64) (hT' : T ≤ 900000000) (hw : w ≤ 300000) (ht : t ≤ 300000) (k : Int) (hu : IsS RB u b) (hb : b.length < 4611686018427387904) (place : Int) :
  ∃ g' τ,ze cfg 12 [.ref pid 0 0,.int .i64 k,u,.int .i64 place] σ = some (.int .i64 (if 0 ≤ k ∧ k < P then (if b.length = 512 then 0 else 1) else 3),τ) ∧ St P n (w + 4) t T did pid mid g' τ (if 0 ≤ k ∧ k < P ∧ b.length = 512 then p.putP k b place else p) ∧ OutP g σ g' τ := by
 obtain ⟨vs,ids,r⟩ := h.r
 have l1 := h.l.w
 have l2 := h.l.t
 by_cases c : 0 ≤ k ∧ k < P ∧ b.length = 512
 ·obtain ⟨g',τ,vs',ids',h1,h4,h5,h6⟩ := zwc h.d r h.a.k hP hT' (by omega) (by omega) ⟨c.1,c.2.1⟩ hu c.2.2 place
  simp only [if_pos c,if_pos (show 0 ≤ k ∧ k < P from ⟨c.1,c.2.1⟩),if_pos c.2.2]
  exact ⟨g',τ,h1,⟨h4,⟨vs',ids',h5⟩,(h.a.put hP ⟨c.1,c.2.1⟩ c.2.2 place).1,h.l.put k b place⟩,h6⟩
 ·have e := zua h.d r h.a.k.iv.pl hP hu hb place (k := k) (by
   by_cases c1 : b.length = 512
   ·have : ¬ (0 ≤ k ∧ k < P) := fun x => c ⟨x.1,x.2,c1⟩
    omega
   ·exact .inr (.inr c1))
  simp only [if_neg c]
  refine ⟨g,σ,?_,h.mono (by omega) (Nat.le_refl _),OutP.refl _ _⟩
  by_cases c1 : 0 ≤ k ∧ k < P
  ·rw [if_pos c1] at e ⊢
   rw [if_neg fun x => c ⟨c1.1,c1.2,x⟩]; exact e
  ·rw [if_neg c1] at e ⊢; exact e
theorem St.evict (h : St P n w t T did pid mid g σ p) (hT' : T ≤ 900000000) (hw : w ≤ 300000) (ht : t ≤ 300000) (k : Int) :
  ∃ g' τ,ze cfg 15 [.ref pid 0 0,.int .i64 k] σ = some (.int .i64 (if (wc p.m k).isSome = true then 0 else 3),τ) ∧ St P n (w + 4) t T did pid mid g' τ (p.evP k) ∧ OutP g σ g' τ := by
 obtain ⟨vs,ids,r⟩ := h.r
 have l1 := h.l.w
 have l2 := h.l.t
 obtain ⟨g',τ,vs',ids',h1,h2,h3,h4⟩ := zuf h.d r h.a.k hT' (by omega) (by omega) k
 exact ⟨g',τ,h1,⟨h2,⟨vs',ids',h3⟩,h.a.ev.1,h.l.ev k⟩,h4⟩
theorem Lim.fold {w t : Nat} : ∀ (l : List Int) {p : Po},Lim w t p → Lim (w + 4 * l.length) t (l.foldl Po.wrk p)
 | [],p,h => h
 | k :: l,p,h => by
   have h1 : Lim (w + 4) t (p.wrk k) := by
    unfold Po.wrk
    split
    ·exact h.mono (by omega) (Nat.le_refl _)
    ·split
     ·exact h.mono (by omega) (Nat.le_refl _)
     ·exact h.wr _ _ _
   exact (Lim.fold l h1).mono (by rw [List.length_cons]; omega) (Nat.le_refl _)
theorem St.flush (h : St P n w t T did pid mid g σ p) (hP : P ≤ 64) (hn : n ≤ 64) (hT' : T ≤ 900000000) (hw : w ≤ 300000) (ht : t ≤ 300000) :
  ∃ g' τ,ze cfg 14 [.ref pid 0 0] σ = some (.int .i64 (p.dirts.length : Nat),τ) ∧ St P n (w + 256) t T did pid mid g' τ p.flush ∧ OutP g σ g' τ ∧ ∀ j : Int,0 ≤ j → j < P → p.flush.val j = p.val j := by
 obtain ⟨vs,ids,r⟩ := h.r
 have hf := h.a.few
 obtain ⟨g',τ,h1,h2,h3,h4,h5,h6⟩ := zue h.d r h.a hP hT' (h.l.mono (by omega) (by omega)) (by omega)
 have hl : p.dirts.length ≤ 64 := by
  have h7 : p.dirts.length ≤ p.ins.length := List.length_filter_le _ _
  have h8 : p.ins.length = p.m.length := by unfold Po.ins; rw [List.length_mergeSort,List.length_map]
  omega
 exact ⟨g',τ,h1,⟨h2,⟨vs,ids,h3⟩,h4,(Lim.fold p.dirts h.l).mono (by omega) (Nat.le_refl _)⟩,h5,h6⟩
end
end Go.Pvm.S
