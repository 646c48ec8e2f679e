/- Part of the proof: pools are made; pages of bytes; light acts; a pool's state as a whole. -/
import Derived.Test.YtceokplopachgaaPolL
import Derived.Test.YtceokplopachgaaDevH
set_option linter.unusedSimpArgs false
set_option linter.unusedVariables false
set_option maxRecDepth 100000
namespace Go.Pvm.S
open Go.Pvm Go.Proofs
theorem zw2 {α : Type} {f : α → List PV} {l : List α} {i : Nat} {a : α} (h : l[i]? = some a) : (l.map f)[i]? = some (f a) := by rw [hav,h]; rfl
theorem zz7 (t : TypeId) {x y : Nat} (h : 0 < y) : j9 Try.prog .rem t (.int .i64 (x : Nat)) (.int .i64 (y : Nat)) = some (.int .i64 ((x % y : Nat) : Int)) := by
 have h0 : ((y : Nat) : Int) ≠ 0 := by omega
 have hm : ((x : Nat) : Int).tmod ((y : Nat) : Int) = ((x % y : Nat) : Int) := rfl
 simp [j9,zln,h0,hm]
 omega
def pgB (b : By) : By := (List.range 512).map fun i => b.getD (i % b.length) 0
theorem jw (b : By) : (pgB b).length = 512 := by unfold pgB; rw [han,List.length_range]
theorem zkl (b : By) {i : Nat} (h : i < 512) : (pgB b)[i]? = some (b.getD (i % b.length) 0) := by
 unfold pgB
 rw [hav,List.getElem?_range h]
 rfl
theorem zpc (b : By) (hb : b.length < 4611686018427387904) : jm Cω 13 [bv b] = some (bv (pgB b)) := by
 have key : ∀ (k i : Nat) (q : By),i + k = 512 → q.length = 512 → (∀ j < i,q[j]? = some (b.getD (j % b.length) 0)) → (∀ j,i ≤ j → j < 512 → q[j]? = some 0) → ∃ p : By,p = pgB b ∧ Lω 13 zhl 0 (zgy (b.map cB) (i : Nat)) [.made true 1 (q.map cB)] = some (.exit 0,mkS 26 [(3,whole 0 1)],[.made true 1 (p.map cB)]) := by
  intro k
  induction k with
  | zero =>
    intro i q hi hq h1 h2
    refine ⟨q,List.ext_getElem? fun j => ?_,lw ?_⟩
    ·by_cases hj : j < 512
     ·rw [h1 j (by omega),zkl b hj]
     ·rw [hbv (by omega),hbv (by rw [jw]; omega)]
    ·rw [zp9,if_neg (by rw [hbw]; omega)]
  | succ k ih =>
    intro i q hi hq h1 h2
    have ev := zp9 Cω Lω (b.map cB) (i : Nat) (q.map cB)
    rw [han,han,if_pos (by rw [hbw]; omega)] at ev
    by_cases c : 0 < b.length
    ·have hm : i % b.length < b.length := Nat.mod_lt _ c
     have hg := haf hm
     rw [if_pos (by rw [hbw]; omega),zz7 _ c,za,zb,if_pos (by omega),hax,zw2 hg,za,show cB b[i % b.length] = [.int .u8 (b[i % b.length].toNat : Nat)] from rfl,yn,yl,if_pos ⟨by omega,by omega⟩,hax,if_pos (by omega),y6 (by omega)] at ev
     obtain ⟨p,p1,p2⟩ := ih (i + 1) (q.set i b[i % b.length]) (by omega) (by rw [List.length_set]; exact hq) (fun j hj => by
      by_cases e : j = i
      ·subst e; rw [ha3 (by omega),hai,hg]; rfl
      ·rw [ha5 (by omega)]; exact h1 j (by omega)) (fun j h3 h4 => by
      rw [ha5 (by omega)]; exact h2 j (by omega) h4)
     rw [List.map_set] at p2
     exact ⟨p,p1,lw (ev.trans p2)⟩
    ·rw [if_neg (by rw [hbw]; omega)] at ev
     refine ⟨q,List.ext_getElem? fun j => ?_,lw ev⟩
     have hb0 : b = [] := ha1 (by omega)
     by_cases hj : j < 512
     ·rw [zkl b hj]
      by_cases hj2 : j < i
      ·exact h1 j hj2
      ·rw [h2 j (by omega) hj,hb0]; rfl
     ·rw [hbv (by omega),hbv (by rw [jw]; omega)]
 have ev := zzi Cω Lω (b.map cB)
 rw [if_pos ⟨by decide,rfl,by decide,by decide⟩] at ev
 obtain ⟨p,rfl,p2⟩ := key 512 0 (List.replicate 512 0) (by omega) List.length_replicate (fun j hj => by omega) (fun j _ hj => by rw [List.getElem?_replicate,if_pos hj])
 have hz : List.replicate (Int.toNat 512) [PV.int .u8 0] = (List.replicate 512 (0 : UInt8)).map cB := by rw [List.map_replicate]; rfl
 rw [zp3] at p2
 rw [hz,p2] at ev
 have g1 : List.getD (mkS 26 [(3,whole 0 1)]) 3 .undef = whole 0 1 := rfl
 simp only [zb,zc,ye,xb,xc,y1,yq,zo,yl,ym,yk,zm,zx,yd,yp,xw,zy,zl,yf,yo,zr,z6,zz,yn,yz,yy,xd,xe,yw,yx,yr,yg,yv,yh,yu,yt,vn,za,ya,y9,g1,if_true] at ev
 exact pc ev rfl
section
variable {σ : Store} {v : PV} {b : By} {g : Nat → Nat}
theorem zwo {f : FuncId} {a pa : List PV} {v : PV} (h : jm Cω f a = some v) (ha : VFs a pa) : ∃ p,zfv cfg f pa = some p ∧ VF v p := by
 obtain ⟨p,τ,h1,h2⟩ := zep hTs zwp h ha
 refine ⟨fz zp τ p,?_,h2⟩
 unfold zfv
 rw [h1]
 rfl
theorem ztx {c2 : Cfg} (hm : c2.mode 13 = .pure) (hP : c2.P = Try.prog) (h : IsS RB v b) (hb : b.length < 4611686018427387904) (σ : Store) : ∃ p,zi c2 (ze cfg) 13 [v] σ = some (p,σ) ∧ IsS RB p (pgB b) := by
 obtain ⟨p,h1,h2⟩ := zq7 (c2 := c2) hm hP (by kernel_rfl) (zpc b hb) (.cons (IsS.vf h) .nil) (fun σ => by have := vo (e := [v]) (fun c hc => by rw [ham.1 hc]; exact h.plain) 7 σ; exact this) (zu1 fun c hc => by rw [ham.1 hc]; exact h.plain) σ
 exact ⟨p,h1,VF.by_ h2⟩
theorem zq9 {c2 : Cfg} (hm : c2.mode 13 = .pure) (hP : c2.P = Try.prog) (hst : c2.strict = false) (hb : b.length < 4611686018427387904) (σ : Store) : ∃ p,zi c2 (ze cfg) 13 [.lsl σ.next 1 0 b.length (some b.length)] (σ.push (.cells 0 (b.map cB))) = some (p,(σ.push (.cells 0 (b.map cB))).put σ.next (.cells (b.map cB).length (b.map cB))) ∧ IsS RB p (pgB b) := by
 have ax : AxS RB (σ.push (.cells 0 (b.map cB))) 1 (.lsl σ.next 1 0 b.length (some b.length)) b := AxS.fresh (R := RB) (All2.fn cB b) σ 1 rfl
 have hf := ax.frz okB 6
 obtain ⟨p,h1,h2⟩ := zwo (zpc b hb) (.cons (IsS.vf hf) .nil)
 have h3 := VF.by_ h2
 refine ⟨p,?_,h3⟩
 unfold zi qq
 rw [if_pos (by rw [hP]; kernel_rfl),hm]
 simp only
 unfold zfv at h1
 rw [hac] at h1
 obtain ⟨⟨u,τ⟩,e1,e2⟩ := h1
 have hmm : [PV.lsl σ.next 1 0 b.length (some b.length)].map (fz zp (σ.push (.cells 0 (b.map cB)))) = [fz (6 + 2) (σ.push (.cells 0 (b.map cB))) (.lsl σ.next 1 0 b.length (some b.length))] := rfl
 rw [hmm,e1]
 simp only [Option.bind_some] at e2 ⊢
 rw [e2]
 have hsc : ¬ p.scalar = true := by
  obtain ⟨es,h4,_⟩ := h3
  rcases h4 with ⟨rfl,rfl⟩ | ⟨bb,rfl⟩
  ·rename_i h5
   have hl := jw b
   generalize pgB b = q at h5 hl
   cases h5
   cases hl
  ·exact fun h => by cases h
 have hal : ((b.map cB).all fun e => PV.lf.lfs e) = true := by
  rw [har]
  intro e he
  obtain ⟨c,_,rfl⟩ := List.mem_map.1 he
  rfl
 rw [if_neg hsc,hst]
 simp only [Bool.false_eq_true,if_false]
 rw [show tops.topss [PV.lsl σ.next 1 0 b.length (some b.length)] = [σ.next] from rfl]
 unfold ke
 rw [zn]
 simp only [hal,if_true]
 unfold ke
 rfl
end
end Go.Pvm.S
set_option linter.unusedSimpArgs false
set_option linter.unusedVariables false
set_option maxRecDepth 100000
namespace Go.Pvm.S
open Go.Pvm Go.Proofs
structure Ac where
 d : Int
 g : Int
 b : By
 n : Int
 p : List Bool
def Ac.e (a : Ac) : List PV := [.int .i64 a.d,.int .i64 a.g,bv a.b,.int .i64 a.n,.psl false (a.p.map bo)]
theorem zuc (l : List Ac) (hl : l.length < 4611686018427387904) : ∃ b : Bool,jm Cω 10 [.psl false (l.map Ac.e)] = some (.bool b) := by
 have key : ∀ (k i : Nat) (s : Int),i + k = l.length → ∃ x,Lω 10 zbv 0 (zbj (l.map Ac.e) s (i : Nat)) [] = some x ∧ (x = (.exit 0,mkS 41 [],[]) ∨ ∃ b : Bool,x = (.ret,mkS 41 [(2,.bool b)],[])) := by
  intro k
  induction k with
  | zero =>
    intro i s hi
    refine ⟨_,lw (by rw [zqa,if_neg (by rw [hbw,han]; omega)]),.inl rfl⟩
  | succ k ih =>
    intro i s hi
    have hw := haf (show i < l.length by omega)
    have ev := zqa Cω Lω (l.map Ac.e) s (i : Nat)
    have hm := zw2 (f := Ac.e) hw
    rw [if_pos (by rw [hbw,han]; omega),hax,hm] at ev
    generalize l[i] = a at ev
    have hae : a.e = [.int .i64 a.d,.int .i64 a.g,.psl false (a.b.map cB),.int .i64 a.n,.psl false (a.p.map bo)] := rfl
    have hi0 : (0 : Int) ≤ ((i : Nat) : Int) := by omega
    simp only [hae,zb,zc,ye,xb,xc,y1,yq,zo,yl,ym,yk,zm,zx,yd,yp,xw,zy,zl,yf,yo,zr,z6,zz,yn,yz,yy,xd,xe,yw,yx,yr,yg,yv,yh,yu,yt,vn,za,ya,y9,if_pos hi0,y6 (show i < 4611686018427387904 by omega)] at ev
    by_cases c0 : decide (((i : Nat) : Int) < 40) = true
    case neg => rw [if_neg c0] at ev; exact ⟨_,lw ev,.inl rfl⟩
    rw [if_pos c0] at ev
    have nxt : ∀ t,jj cfg za5 Cω Lω 10 zbv 0 (zbj (l.map Ac.e) s (i : Nat)) [] = Lω 10 zbv 0 (zbj (l.map Ac.e) t ((i + 1 : Nat) : Int)) [] → ∃ x,Lω 10 zbv 0 (zbj (l.map Ac.e) s (i : Nat)) [] = some x ∧ (x = (.exit 0,mkS 41 [],[]) ∨ ∃ b : Bool,x = (.ret,mkS 41 [(2,.bool b)],[])) := fun t h => by
     obtain ⟨x,x1,x2⟩ := ih (i + 1) t (by omega)
     exact ⟨x,lw (h.trans x1),x2⟩
    repeat' (split at ev)
    all_goals first
     | exact ⟨_,lw ev,.inl rfl⟩
     | exact ⟨_,lw ev,.inr ⟨_,rfl⟩⟩
     | exact nxt _ ev
 have ev := zzj Cω Lω (l.map Ac.e)
 obtain ⟨x,x1,x2⟩ := key l.length 0 0 (by omega)
 rw [zp3] at x1
 rw [x1] at ev
 rcases x2 with rfl | ⟨b,rfl⟩
 ·simp only [zb,zc,ye,xb,xc,y1,yq,zo,yl,ym,yk,zm,zx,yd,yp,xw,zy,zl,yf,yo,zr,z6,zz,yn,yz,yy,xd,xe,yw,yx,yr,yg,yv,yh,yu,yt,vn,za,ya,y9,if_true] at ev
  exact ⟨true,pc ev rfl⟩
 ·have g1 : List.getD (mkS 41 [(2,PV.bool b)]) 2 .undef = .bool b := rfl
  simp only [zb,zc,ye,xb,xc,y1,yq,zo,yl,ym,yk,zm,zx,yd,yp,xw,zy,zl,yf,yo,zr,z6,zz,yn,yz,yy,xd,xe,yw,yx,yr,yg,yv,yh,yu,yt,vn,za,ya,y9,g1] at ev
  exact ⟨b,pc ev rfl⟩
def RA : ElR Ac := fun e a => ∃ u v,e = [.int .i64 a.d,.int .i64 a.g,u,.int .i64 a.n,v] ∧ IsS RB u a.b ∧ IsS RBo v a.p
theorem plA {u v : PV} (hu : u.plain = true) (hv : v.plain = true) (x y z : Int) : ∀ c ∈ [.int .i64 x,.int .i64 y,u,.int .i64 z,v],c.plain = true := by
 intro c hc
 simp only [ha6,List.not_mem_nil,or_false] at hc
 rcases hc with rfl | rfl | rfl | rfl | rfl
 ·rfl
 ·rfl
 ·exact hu
 ·rfl
 ·exact hv
theorem okA : ROk 5 RA := ⟨fun e m h => by obtain ⟨u,v,rfl,_⟩ := h; rfl,fun e m h c hc => by
 obtain ⟨u,v,rfl,hu,hv⟩ := h
 exact plA hu.plain hv.plain _ _ _ c hc⟩
theorem TA : SlT Try.prog 22 36 5 72 := ⟨by kernel_rfl,by kernel_rfl,by kernel_rfl,⟨.agg [.int .i64 0,.int .i64 0,.nilsl,.int .i64 0,.nilsl],by kernel_rfl,rfl,rfl⟩,by decide,by decide⟩
theorem zyw (σ : Store) (a b c d e : PV) : zd Try.prog σ 36 (.pref [a,b,c,d,e]) = some (.agg [a,b,c,d,e]) := by kernel_rfl
theorem zye : qk Try.prog 36 = some 5 := by kernel_rfl
theorem VF.bos {l : List Bool} {p : PV} (h : VF (.psl false (l.map bo)) p) : IsS RBo p l := by
 generalize hq : l.map bo = es at h
 cases h with
 | base h => cases ‹PV.base _ = true›
 | psl b b' h =>
   subst hq
   have hp := zfo (e := bo) (fun a => rfl) h
   subst hp
   refine ⟨_,.inr ⟨b',rfl⟩,?_⟩
   clear h
   induction l with
   | nil => exact .nil
   | cons a l ih => exact .cons rfl ih
 | nl b =>
   have : l = [] := by cases l <;> first | rfl | cases hq
   subst this
   exact .nil
theorem VFs.act {a : Ac} {e : List PV} (h : VFs a.e e) : RA e a := by
 unfold Ac.e at h
 cases h with | cons a0 h => cases h with | cons a1 h => cases h with | cons a2 h => cases h with | cons a3 h => cases h with | cons a4 h =>
 cases h
 rw [a0.base_eq rfl,a1.base_eq rfl,a3.base_eq rfl]
 exact ⟨_,_,rfl,VF.by_ a2,VF.bos a4⟩
theorem VF.acts {l : List Ac} {p : PV} (h : VF (.psl false (l.map Ac.e)) p) : IsS RA p l := by
 generalize hq : l.map Ac.e = es at h
 cases h with
 | base h => cases ‹PV.base _ = true›
 | psl b b' h =>
   subst hq
   refine ⟨_,.inr ⟨b',rfl⟩,?_⟩
   rename_i ps
   induction l generalizing ps with
   | nil => cases h; exact .nil
   | cons a l ih =>
     cases h with
     | cons h t => exact .cons (VFs.act h) (ih t)
 | nl b =>
   have : l = [] := by cases l <;> first | rfl | cases hq
   subst this
   exact .nil
structure St (P n w t : Nat) (T : Int) (did pid mid : Nat) (g : Nat → Nat) (σ : Store) (p : Po) : Prop where
 d : DevS g σ did p.d
 r : ∃ vs ids,PoR g σ pid did mid p vs ids
 a : PoA P n T p
 l : Lim w t p
section
variable {P n w t : Nat} {T : Int} {did pid mid : Nat} {g g' : Nat → Nat} {σ τ : Store} {p : Po} {u : PV} {b : By}
theorem St.mono {w' t' : Nat} (h : St P n w t T did pid mid g σ p) (h1 : w ≤ w') (h2 : t ≤ t') : St P n w' t' T did pid mid g σ p := ⟨h.d,h.r,h.a,h.l.mono h1 h2⟩
theorem St.push (h : St P n w t T did pid mid g σ p) (o : Obj) : St P n w t T did pid mid g (σ.push o) p :=
 let ⟨vs,ids,r⟩ := h.r
 ⟨h.d.push o,⟨vs,ids,r.push o⟩,h.a,h.l⟩
theorem PoR.retag {vs : PV} {ids : List Nat} (r : PoR g σ pid did mid p vs ids) (hg : ∀ i,i < σ.next → g' i = g i) : PoR g' σ pid did mid p vs ids := r.mod ⟨hah _,fun _ _ _ => rfl⟩ hg
theorem St.retag (h : St P n w t T did pid mid g σ p) (hg : ∀ i,i < σ.next → g' i = g i) : St P n w t T did pid mid g' σ p :=
 let ⟨vs,ids,r⟩ := h.r
 ⟨h.d.retag hg,⟨vs,ids,PoR.retag r hg⟩,h.a,h.l⟩
theorem St.box (h : St P n w t T did pid mid g σ p) (o : Obj) (k : Nat) : St P n w t T did pid mid (tag g σ.next k) (σ.push o) p ∧ OutP g σ (tag g σ.next k) (σ.push o) :=
 ⟨(h.retag fun i hi => je hi).push o |> fun h => h,⟨hbd _,fun i hi => je hi,fun i hi _ => .inl (yj hi)⟩⟩
theorem St.put (h : St P n w t T did pid mid g σ p) {i : Nat} (hi : 7 = g i ∨ 11 ≤ g i) (o : Obj) : St P n w t T did pid mid g (σ.put i o) p := by
 obtain ⟨vs,ids,r⟩ := h.r
 have hne : ∀ j,8 ≤ g j → g j ≤ 10 → j ≠ i := fun j h1 h2 e => by subst e; omega
 refine ⟨h.d.mod (Mod.put (ids := [i]) (.head _)) fun j hj _ => by rw [ham.1 hj]; omega,⟨vs,ids,?_⟩,h.a,h.l⟩
 exact {
  g9 := r.g9,gA := r.gA,lp := r.lp,lm := r.lm
  po := (yb (hne pid (by rw [r.g9]; decide) (by rw [r.g9]; decide))).trans r.po
  sp := r.sp
  mo := (yb (hne mid (by rw [r.gA]; decide) (by rw [r.gA]; decide))).trans r.mo
  il := r.il,nd := r.nd
  sh := fun j hj => by
   obtain ⟨h1,h2,u,h3,h4⟩ := r.sh j hj
   exact ⟨h1,h2,u,(yb (hne _ (by rw [h1]; decide) (by rw [h1]; decide))).trans h3,h4⟩ }
theorem St.read (h : St P n w t T did pid mid g σ p) (hP : P ≤ 64) (hT' : T ≤ 900000000) (hw : w ≤ 300000) (ht : t ≤ 300000) (k : Int) :
  ∃ g' τ u,ze cfg 16 [.ref pid 0 0,.int .i64 k] σ = some (.tuple [u,.int .i64 (if 0 ≤ k ∧ k < P then 0 else 3)],τ) ∧ St P n (w + 4) t T did pid mid g' τ (if 0 ≤ k ∧ k < P then p.letP k else p) ∧ OutP g σ g' τ ∧ (∀ i ∈ tops u,7 ≤ g' i) ∧ QS RB τ 1 u (if 0 ≤ k ∧ k < P then p.val k else []) ∧ (0 ≤ k ∧ k < P → AxS RB τ 1 u (p.val k) ∧ ∀ i ∈ tops u,g' i = 7) := by
 obtain ⟨vs,ids,r⟩ := h.r
 have l1 := h.l.w
 have l2 := h.l.t
 by_cases c : 0 ≤ k ∧ k < P
 ·obtain ⟨g',τ,vs',ids',u,h1,h2,h3,h4,h5,h6⟩ := zub h.d r h.a.k hP hT' (by omega) (by omega) c (h.a.len hP c)
  obtain ⟨k1,k2,_⟩ := h.a.letP hP c
  rw [k2 k c.1 c.2] at h2
  simp only [if_pos c]
  exact ⟨g',τ,u,h1,⟨h4,⟨vs',ids',h5⟩,k1,h.l.letP k⟩,h6,fun i hi => Nat.le_of_eq (h3 i hi).symm,h2.q,fun _ => ⟨h2,h3⟩⟩
 ·simp only [if_neg c]
  exact ⟨g,σ,.nilsl,zpd h.d r h.a.k.iv.pl hP (by omega),h.mono (by omega) (hah _),OutP.refl _ _,(fun i hi => by cases hi),IsS.nil.q _ _,fun c' => absurd c' c⟩
theorem St.putP (h : St P n w t T did pid mid g σ p) (hP : P ≤ 64) (hT' : T ≤ 900000000) (hw : w ≤ 300000) (ht : t ≤ 300000) (k : Int) (hu : IsS RB u b) (hb : b.length < 4611686018427387904) (place : Int) :
  ∃ g' τ,ze cfg 12 [.ref pid 0 0,.int .i64 k,u,.int .i64 place] σ = some (.int .i64 (if 0 ≤ k ∧ k < P then (if b.length = 512 then 0 else 1) else 3),τ) ∧ St P n (w + 4) t T did pid mid g' τ (if 0 ≤ k ∧ k < P ∧ b.length = 512 then p.putP k b place else p) ∧ OutP g σ g' τ := by
 obtain ⟨vs,ids,r⟩ := h.r
 have l1 := h.l.w
 have l2 := h.l.t
 by_cases c : 0 ≤ k ∧ k < P ∧ b.length = 512
 ·obtain ⟨g',τ,vs',ids',h1,h4,h5,h6⟩ := zwc h.d r h.a.k hP hT' (by omega) (by omega) ⟨c.1,c.2.1⟩ hu c.2.2 place
  simp only [if_pos c,if_pos (show 0 ≤ k ∧ k < P from ⟨c.1,c.2.1⟩),if_pos c.2.2]
  exact ⟨g',τ,h1,⟨h4,⟨vs',ids',h5⟩,(h.a.put hP ⟨c.1,c.2.1⟩ c.2.2 place).1,h.l.put k b place⟩,h6⟩
 ·have e := zua h.d r h.a.k.iv.pl hP hu hb place (k := k) (by
   by_cases c1 : b.length = 512
   ·have : ¬ (0 ≤ k ∧ k < P) := fun x => c ⟨x.1,x.2,c1⟩
    omega
   ·exact .inr (.inr c1))
  simp only [if_neg c]
  refine ⟨g,σ,?_,h.mono (by omega) (hah _),OutP.refl _ _⟩
  by_cases c1 : 0 ≤ k ∧ k < P
  ·rw [if_pos c1] at e ⊢
   rw [if_neg fun x => c ⟨c1.1,c1.2,x⟩]; exact e
  ·rw [if_neg c1] at e ⊢; exact e
theorem St.evict (h : St P n w t T did pid mid g σ p) (hT' : T ≤ 900000000) (hw : w ≤ 300000) (ht : t ≤ 300000) (k : Int) :
  ∃ g' τ,ze cfg 15 [.ref pid 0 0,.int .i64 k] σ = some (.int .i64 (if (wc p.m k).isSome = true then 0 else 3),τ) ∧ St P n (w + 4) t T did pid mid g' τ (p.evP k) ∧ OutP g σ g' τ := by
 obtain ⟨vs,ids,r⟩ := h.r
 have l1 := h.l.w
 have l2 := h.l.t
 obtain ⟨g',τ,vs',ids',h1,h2,h3,h4⟩ := zuf h.d r h.a.k hT' (by omega) (by omega) k
 exact ⟨g',τ,h1,⟨h2,⟨vs',ids',h3⟩,h.a.ev.1,h.l.ev k⟩,h4⟩
theorem Lim.fold {w t : Nat} : ∀ (l : List Int) {p : Po},Lim w t p → Lim (w + 4 * l.length) t (l.foldl Po.wrk p)
 | [],p,h => h
 | k :: l,p,h => by
   have h1 : Lim (w + 4) t (p.wrk k) := by
    unfold Po.wrk
    split
    ·exact h.mono (by omega) (hah _)
    ·split
     ·exact h.mono (by omega) (hah _)
     ·exact h.wr _ _ _
   exact (Lim.fold l h1).mono (by rw [List.length_cons]; omega) (hah _)
theorem St.flush (h : St P n w t T did pid mid g σ p) (hP : P ≤ 64) (hn : n ≤ 64) (hT' : T ≤ 900000000) (hw : w ≤ 300000) (ht : t ≤ 300000) :
  ∃ g' τ,ze cfg 14 [.ref pid 0 0] σ = some (.int .i64 (p.dirts.length : Nat),τ) ∧ St P n (w + 256) t T did pid mid g' τ p.flush ∧ OutP g σ g' τ ∧ ∀ j : Int,0 ≤ j → j < P → p.flush.val j = p.val j := by
 obtain ⟨vs,ids,r⟩ := h.r
 have hf := h.a.few
 obtain ⟨g',τ,h1,h2,h3,h4,h5,h6⟩ := zue h.d r h.a hP hT' (h.l.mono (by omega) (by omega)) (by omega)
 have hl : p.dirts.length ≤ 64 := by
  have h7 : p.dirts.length ≤ p.ins.length := List.length_filter_le _ _
  have h8 : p.ins.length = p.m.length := by unfold Po.ins; rw [List.length_mergeSort,han]
  omega
 exact ⟨g',τ,h1,⟨h2,⟨vs,ids,h3⟩,h4,(Lim.fold p.dirts h.l).mono (by omega) (hah _)⟩,h5,h6⟩
end
end Go.Pvm.S
set_option linter.unusedSimpArgs false
set_option linter.unusedVariables false
set_option maxRecDepth 100000
namespace Go.Pvm.S
open Go.Pvm Go.Proofs
theorem zxz {c2 : Cfg} (hm : c2.mode 36 = .pure) (hP : c2.P = Try.prog) (n : Int) (σ : Store) :
  ∃ vs,zi c2 (ze cfg) 36 [.int .i64 n] σ = some (.tuple [.agg [vs,.int .i64 (zdx n).1.h],.int .i64 (zdx n).2],σ) ∧ IsS (Fn Sp.e) vs (zdx n).1.l := by
 obtain ⟨p,h1,h2⟩ := zq7 (c2 := c2) hm hP (by kernel_rfl) (zwj n) (.cons (.base _ rfl) .nil) (fun σ => rfl) rfl σ
 cases h2 with
 | base h => cases ‹PV.base _ = true›
 | tuple h =>
   cases h with | cons a0 h => cases h with | cons a1 h =>
   cases h
   obtain ⟨vs',rfl,hv⟩ := VF.ck a0
   rw [a1.base_eq rfl] at h1
   exact ⟨vs',h1,hv⟩
theorem zx0 (i m : Nat) (v : PV) (hv : v.plain = true) (h b : Int) : jz Try.prog 49 [(0,.ref i 0 0),(1,.agg [v,.int .i64 h]),(2,.mref m),(3,.int .i64 b)] = some (.agg [.ref i 0 0,v,.int .i64 h,.mref m,.int .i64 b]) := by
 cases v <;> first | (cases hv; done) | kernel_rfl
theorem zyt (σ : Store) : qg Try.prog σ 47 none = some (.mref σ.next,σ.push (.map [])) := by
 unfold qg
 rw [tyM]
 rfl
def Po.new (d : Dv) (n : Int) : Po := ⟨d,(zdx n).1,[],d.seen.base⟩
section
variable {g : Nat → Nat} {σ : Store} {did : Nat} {d : Dv}
theorem zwd (h : DevS g σ did d) {P : Nat} (hP : 1 ≤ P ∧ P ≤ 1000000) (hl : d.seen.pg.length = 512 * P) (hst : d.seen.st.length ≤ 1000000000) {n : Int} (hn : 1 ≤ n ∧ n ≤ 64) :
  ∃ g' τ pid mid,ze cfg 9 [.ref did 0 0,.int .i64 n] σ = some (.tuple [.ref pid 0 0,.int .i64 0],τ) ∧ DevS g' τ did d ∧ (∃ vs ids,PoR g' τ pid did mid (Po.new d n) vs ids) ∧ OutP g σ g' τ := by
 have ev := eq9 (ze cfg) (y2 cfg) σ did 0 0 n
 obtain ⟨vs,c1,c2⟩ := zxz (c2 := cfg) rfl rfl n σ
 have e1 : (zdx n).2 = 0 := by unfold zdx; rw [if_neg (by omega)]
 have eh : (zdx n).1.h = 0 := by unfold zdx; rw [if_neg (by omega)]
 rw [e1] at c1
 have ho : ∀ x ∈ [vs,.int .i64 (zdx n).1.h],x.plain = true := fun x hx => by
  rcases ha6.1 hx with rfl | hx
  ·exact c2.plain
  ·rw [ham.1 hx]; rfl
 have s1 : zu Try.prog (Store.push σ (.cells 0 [[.nilsl,(.int .i64 0)]])) 46 (.ref (Store.next σ) 0 0) (.agg [vs,.int .i64 (zdx n).1.h]) = some (σ.push (.cells 0 [[vs,.int .i64 (zdx n).1.h]])) := zne zyd rfl rfl (ww ho)
 have hg0 : ∀ i,i < σ.next → tag g σ.next 11 i = g i := fun i hi => je hi
 have h1 : DevS (tag g σ.next 11) (σ.push (.cells 0 [[vs,.int .i64 (zdx n).1.h]])) did d := (h.retag hg0).push _
 have pg := zak (c2 := cfg) rfl rfl h1 hl hP.2
 obtain ⟨g1,τ1,u,st1,_,_,st2,st3⟩ := zlz h1 hst
 have st1' : zi cfg (ze cfg) 34 [.ref did 0 0] (σ.push (.cells 0 [[vs,.int .i64 (zdx n).1.h]])) = some (.tuple [.int .i64 d.seen.base,u],τ1) := by rw [zk rfl (by kernel_rfl)]; exact st1
 have hk : τ1.objs σ.next = some (.cells 0 [[vs,.int .i64 (zdx n).1.h]]) := (st3.same (haw _) (by rw [qj (hah _)]; decide)).trans (zn _ _)
 have ld : zd Try.prog τ1 46 (.ref σ.next 0 0) = some (.agg [vs,.int .i64 (zdx n).1.h]) := zyv aggCk hk rfl
 have P0 : ((((P : Nat) : Int)) == 0) = false := by rw [beq_eq_false_iff_ne]; omega
 have bp := zx0 did τ1.next vs c2.plain (zdx n).1.h d.seen.base
 rw [c1,za,uo,za,un,za,zb,s1,za,if_neg (by decide),pg,za,zb,P0,if_neg (by decide),st1',za,uo,za,zb,un,za,ld,za,zyt,za,bp,za] at ev
 have hkn : PV.known (.agg [.ref did 0 0,vs,.int .i64 (zdx n).1.h,.mref τ1.next,.int .i64 d.seen.base]) = true := by
  have := c2.plain
  generalize vs = v at this
  cases v <;> first | (cases this; done) | rfl
 rw [if_pos ⟨hkn,by show (5 : Nat) ≠ 0; decide⟩] at ev
 have hlt : σ.next < τ1.next := hao (haw _) st3.1
 let g' : Nat → Nat := fun i => if i = τ1.next + 1 then 9 else if i = τ1.next then 10 else g1 i
 have hg' : ∀ i,i < τ1.next → g' i = g1 i := fun i hi => by show (if i = τ1.next + 1 then 9 else if i = τ1.next then 10 else g1 i) = _; rw [if_neg (by omega),if_neg (by omega)]
 refine ⟨g',_,τ1.next + 1,τ1.next,zf (hT _) ev,((st2.retag hg').push _).push _,⟨vs,[],?_⟩,?_⟩
 ·exact {
   g9 := if_pos rfl
   gA := by show (if τ1.next = τ1.next + 1 then 9 else if τ1.next = τ1.next then 10 else g1 _) = 10; rw [if_neg (by omega),if_pos rfl]
   lp := haw _
   lm := Nat.lt_succ_of_lt (haw _)
   po := zn _ _
   sp := c2
   mo := (yj (haw _)).trans (zn _ _)
   il := rfl
   nd := .nil
   sh := fun i hi => absurd hi (Nat.not_lt_zero _) }
 ·have o1 : OutP g σ (tag g σ.next 11) (σ.push (.cells 0 [[vs,.int .i64 (zdx n).1.h]])) := ⟨hbd _,hg0,fun i hi _ => .inl (yj hi)⟩
  have o2 : OutP g1 τ1 g' ((τ1.push (.map [])).push (.cells 0 [[.ref did 0 0,vs,.int .i64 (zdx n).1.h,.mref τ1.next,.int .i64 d.seen.base]])) := ⟨by show τ1.next ≤ τ1.next + 1 + 1; omega,hg',fun i hi _ => .inl ((yj (Nat.lt_succ_of_lt hi)).trans (yj hi))⟩
  exact (o1.trans st3.toP).trans o2
theorem zu8 (n : Nat) : Good (List.replicate n noSp) := by
 have key : ∀ (i : Nat) (s : Sp),(List.replicate n noSp)[i]? = some s → s = noSp := fun i s hs => by
  rw [List.getElem?_replicate] at hs
  split at hs
  ·cases hs; rfl
  ·cases hs
 refine ⟨fun i s hs => .inl (key i s hs),fun i j s t hs ht h0 he => ?_⟩
 rw [key i s hs] at h0
 exact absurd h0 (by decide)
theorem CkOk.new {n : Int} (hn : 1 ≤ n ∧ n ≤ 64) : CkOk n.toNat (zdx n).1 := by
 have e : (zdx n).1 = ⟨List.replicate n.toNat noSp,0⟩ := by unfold zdx; rw [if_neg (by omega)]
 rw [e]
 exact ⟨by omega,List.length_replicate,⟨Int.le_refl _,by show (0 : Int) < _; omega⟩,zu8 n.toNat,fun s hs => by rw [List.eq_of_mem_replicate hs]; rfl⟩
theorem PoA.new {P : Nat} {T : Int} (hd : Inv P T d) {n : Int} (hn : 1 ≤ n ∧ n ≤ 64) : PoA P n.toNat T (Po.new d n) where
 k := ⟨hd,CkOk.new hn,.nil,fun e he => by cases he⟩
 cl := fun e he => by cases he
 kc := fun e he => by cases he
end
end Go.Pvm.S
set_option linter.unusedSimpArgs false
set_option linter.unusedVariables false
set_option maxRecDepth 100000
namespace Go.Pvm.S
open Go.Pvm Go.Proofs
theorem zyq (e : PV) : xl Try.prog 5 [e] 0 = some e := by kernel_rfl
theorem z0f {σ : Store} {v : PV} {l : By} (h : QS RB σ 1 v l) {i : Nat} (hi : i < l.length) : ∃ r,zh Try.prog 33 v (.int .i64 (i : Nat)) = some r ∧ zd Try.prog σ 5 r = some (.int .u8 (((l.getD i 0).toNat : Nat) : Int)) := by
 have hw := haf hi
 obtain ⟨r,e,h1,_,h2,rfl⟩ := h.idx TB okB hw .i64
 have hg : l.getD i 0 = l[i] := by rw [hai,hw]; rfl
 exact ⟨r,h1,by rw [h2,hg]; exact zyq _⟩
theorem zp2 (i j k : Nat) : j9 Try.prog .neq 27 (.ref i j k) .nilptr = some (.bool true) ∧ j9 Try.prog .eql 27 (.ref i j k) .nilptr = some (.bool false) := ⟨by kernel_rfl,by kernel_rfl⟩
theorem zz0 (σ : Store) (c : UInt8) : xt Try.prog σ 33 1 [(0,.int .u8 ((c.toNat : Nat) : Int))] = some (.lsl σ.next 1 0 1 (some 1),σ.push (.cells 0 [[.int .u8 ((c.toNat : Nat) : Int)]])) := by kernel_rfl
theorem zr7 {P n : Nat} {T : Int} {p : Po} (h : PoA P n T p) (hP : P ≤ 64) {k : Int} (hk : 0 ≤ k ∧ k < P) (b : By) (place : Int) : ∃ x,(k,x) ∈ (p.putP k b place).m := by
 obtain ⟨h1,_,x,hx⟩ := h.letP hP hk
 obtain ⟨i,hi⟩ := hau.1 hx
 have hl : i < (p.letP k).m.length := by
  rw [had] at hi
  exact hi.1
 have hg : ((p.letP k).m[i]).1 = k := by rw [had] at hi; rw [hi.2]
 have hp := zcz h1.k.nd hl hg
 unfold Po.putP
 rw [hp]
 refine ⟨⟨b,true,place⟩,?_⟩
 exact haj (i := i) (by rw [ha3 hl])
section
variable {P n w t : Nat} {T : Int} {did pid mid : Nat} {g g' : Nat → Nat} {σ τ : Store} {p : Po} {u : PV} {b : By}
theorem St.out (h : St P n w t T did pid mid g σ p) (hd : DevS g' τ did p.d) (k : Out g σ g' τ) : St P n w t T did pid mid g' τ p := by
 obtain ⟨vs,ids,r⟩ := h.r
 exact ⟨hd,⟨vs,ids,r.out k p.d⟩,h.a,h.l⟩
theorem St.readD (h : St P n w t T did pid mid g σ p) {i : Nat} (hi : i < P) :
  ∃ g' τ u,ze cfg 35 [.ref did 0 0,.int .i64 (i : Nat)] σ = some (.tuple [u,.int .i64 0],τ) ∧ QS RB τ 1 u (za9 p.d (i : Nat)) ∧ (∀ i ∈ tops u,7 ≤ g' i) ∧ St P n w t T did pid mid g' τ p ∧ Out g σ g' τ := by
 obtain ⟨g',τ,u,h1,h2,h3,h4,h5⟩ := zwa h.d h.a.k.iv.hP.2 h.a.k.iv.pl hi
 exact ⟨g',τ,u,h1,h2,h3,h.out h4 h5,h5⟩
theorem zuo (h : St P n w t T did pid mid g σ p) (o : Obj) : St P n w t T did pid mid (tag g σ.next 7) ((σ.push o).put σ.next o) p ∧ OutP g σ (tag g σ.next 7) ((σ.push o).put σ.next o) := by
 obtain ⟨h1,h2⟩ := h.box o 7
 refine ⟨h1.put (.inl (qj (hah _)).symm) _,hbd _,fun i hi => je hi,fun i hi _ => .inl ((yb (Nat.ne_of_lt hi)).trans (yj hi))⟩
end
theorem zwy {P : Nat} {m : Int} (hP : 1 ≤ P ∧ P ≤ 64) (hm : 1 ≤ m ∧ m ≤ 64) (g : Nat → Nat) (σ : Store) : ∃ g' τ did pid mid τ',ze cfg 8 [.int .i64 (P : Nat)] σ = some (.tuple [.ref did 0 0,.int .i64 0],τ') ∧ ze cfg 9 [.ref did 0 0,.int .i64 m] τ' = some (.tuple [.ref pid 0 0,.int .i64 0],τ) ∧ St P m.toNat 0 0 0 did pid mid g' τ (Po.new (Dv.new P) m) ∧ OutP g σ g' τ := by
 obtain ⟨g1,τ1,a1,a2,a3⟩ := zyj hP g σ
 have iv := Inv.new hP
 obtain ⟨g2,τ2,pid,mid,b1,b2,b3,b4⟩ := zwd a2 iv.hP iv.pl (by show ([] : By).length ≤ _; exact hbe _) hm
 exact ⟨g2,τ2,_,pid,mid,τ1,a1,b1,⟨b2,b3,PoA.new iv hm,⟨hah _,hah _⟩⟩,a3.toP.trans b4⟩
theorem zuh (g : Nat → Nat) (σ : Store) : ∃ τ,ze cfg 11 [] σ = some (.bool true,τ) := by
 have ev := z00 (ze cfg) (y2 cfg) σ
 obtain ⟨g1,τ1,did,pid,mid,τ0,a1,a2,a3,_⟩ := zwy (P := 2) (m := 1) (by omega) (by omega) g σ
 have c1 : zi cfg (ze cfg) 8 [.int .i64 2] σ = some (.tuple [.ref did 0 0,.int .i64 0],τ0) := by rw [zk rfl (by kernel_rfl)]; exact a1
 have c2 : zi cfg (ze cfg) 9 [.ref did 0 0,.int .i64 1] τ0 = some (.tuple [.ref pid 0 0,.int .i64 0],τ1) := by rw [zk rfl (by kernel_rfl)]; exact a2
 obtain ⟨u1,p1,p2⟩ := zq9 (c2 := cfg) rfl rfl rfl (b := [7]) (by decide) τ1
 obtain ⟨s1,_⟩ := zuo a3 (.cells 0 [[.int .u8 7]])
 obtain ⟨g2,τ2,d1,d2,_⟩ := ((a3.box (.cells 0 [[.int .u8 7]]) 7).1.put (i := τ1.next) (.inl (qj (hah _)).symm) (.cells 1 [[.int .u8 7]])).putP (by omega) (by omega) (by omega) (by omega) 0 p2 (by rw [jw]; decide) 0
 rw [if_pos (by omega),if_pos (jw _)] at d1
 rw [if_pos ⟨by omega,by omega,jw _⟩] at d2
 have c3 : zi cfg (ze cfg) 12 [.ref pid 0 0,.int .i64 0,u1,.int .i64 0] ((τ1.push (.cells 0 [[.int .u8 7]])).put τ1.next (.cells 1 [[.int .u8 7]])) = some (.int .i64 0,τ2) := by rw [zk rfl (by kernel_rfl)]; exact d1
 obtain ⟨u2,q1,q2⟩ := zq9 (c2 := cfg) rfl rfl rfl (b := [8]) (by decide) τ2
 obtain ⟨g3,τ3,e1,e2,_⟩ := ((d2.box (.cells 0 [[.int .u8 8]]) 7).1.put (i := τ2.next) (.inl (qj (hah _)).symm) (.cells 1 [[.int .u8 8]])).putP (by omega) (by omega) (by omega) (by omega) 1 q2 (by rw [jw]; decide) 0
 rw [if_pos (by omega),if_pos (jw _)] at e1
 rw [if_pos ⟨by omega,by omega,jw _⟩] at e2
 have c4 : zi cfg (ze cfg) 12 [.ref pid 0 0,.int .i64 1,u2,.int .i64 0] ((τ2.push (.cells 0 [[.int .u8 8]])).put τ2.next (.cells 1 [[.int .u8 8]])) = some (.int .i64 0,τ3) := by rw [zk rfl (by kernel_rfl)]; exact e1
 -- what the device has of page 0
 have hval : za9 (((Po.new (Dv.new 2) 1).putP 0 (pgB [7]) 0).putP 1 (pgB [8]) 0).d 0 = pgB [7] := by
  have v1 := (a3.a.put (by omega) (k := 0) (by omega) (jw [7]) 0).2 0 (by omega) (by omega)
  have v2 := (d2.a.put (by omega) (k := 1) (by omega) (jw [8]) 0).2 0 (by omega) (by omega)
  rw [if_pos rfl] at v1
  rw [if_neg (by decide),v1] at v2
  obtain ⟨x,hx⟩ := zr7 d2.a (by omega) (k := 1) (by omega) (pgB [8]) 0
  have hf := e2.a.few
  have hno : ∀ e ∈ (((Po.new (Dv.new 2) 1).putP 0 (pgB [7]) 0).putP 1 (pgB [8]) 0).m,e.1 ≠ 0 := by
   revert hx hf
   generalize (((Po.new (Dv.new 2) 1).putP 0 (pgB [7]) 0).putP 1 (pgB [8]) 0).m = m
   intro hx hf
   match m,hx,hf with
   | [y],hx,_ =>
     rw [ham] at hx
     intro e he
     rw [ham.1 he,← hx]
     show (1 : Int) ≠ 0
     decide
   | _ :: _ :: m,_,hf => exact absurd hf (by show ¬ (m.length + 1 + 1 ≤ (1 : Int).toNat); rw [show (1 : Int).toNat = 1 from rfl]; omega)
  rw [zdc hno] at v2
  exact v2
 obtain ⟨g4,τ4,u3,f1,f2,f3,f4,_⟩ := e2.readD (i := 0) (by omega)
 rw [show ((0 : Nat) : Int) = 0 from rfl,hval] at f2
 have c5 : zi cfg (ze cfg) 35 [.ref did 0 0,.int .i64 0] τ3 = some (.tuple [u3,.int .i64 0],τ4) := by rw [zk rfl (by kernel_rfl)]; exact f1
 obtain ⟨r,h1,h2⟩ := z0f f2 (i := 0) (by rw [jw]; decide)
 have h1 : zh Try.prog 33 u3 (.int .i64 0) = some r := h1
 have h7 : ((((pgB [7]).getD 0 0).toNat : Nat) : Int) = 7 := by
  rw [hai,zkl [7] (i := 0) (by decide)]
  rfl
 rw [h7] at h2
 have hl := f2.len TB
 rw [jw] at hl
 have b7 := zz0 τ1 7
 have b8 := zz0 τ2 8
 have b7 : xt Try.prog τ1 33 1 [(0,.int .u8 7)] = some (.lsl τ1.next 1 0 1 (some 1),τ1.push (.cells 0 [[.int .u8 7]])) := b7
 have b8 : xt Try.prog τ2 33 1 [(0,.int .u8 8)] = some (.lsl τ2.next 1 0 1 (some 1),τ2.push (.cells 0 [[.int .u8 8]])) := b8
 have p1 : zi cfg (ze cfg) 13 [.lsl τ1.next 1 0 1 (some 1)] (τ1.push (.cells 0 [[.int .u8 7]])) = some (u1,(τ1.push (.cells 0 [[.int .u8 7]])).put τ1.next (.cells 1 [[.int .u8 7]])) := p1
 have q1 : zi cfg (ze cfg) 13 [.lsl τ2.next 1 0 1 (some 1)] (τ2.push (.cells 0 [[.int .u8 8]])) = some (u2,(τ2.push (.cells 0 [[.int .u8 8]])).put τ2.next (.cells 1 [[.int .u8 8]])) := q1
 rw [c1,za,uo,za,un,za,zb,c2,za,uo,za,un,za,zb,if_neg (by decide),(zp2 _ _ _).2,za,zc,if_neg (by decide),b7,za,p1,za,c3,za,zb,b8,za,q1,za,c4,za,zb,c5,za,uo,za,un,za,zb,if_pos (by decide),if_pos (by decide),hl,za,zb,if_pos (by decide),h1,za,h2,za,zb] at ev
 exact ⟨_,zf (hT _) ev⟩
theorem zrc {c2 : Cfg} (hm : c2.mode 11 = .pure) (hP : c2.P = Try.prog) (σ : Store) : zi c2 (ze cfg) 11 [] σ = some (.bool true,σ) := by
 obtain ⟨τ,h⟩ := zuh (fun _ => 7) .empty
 exact w8 hm (by rw [hP]; kernel_rfl) (args' := []) rfl (by unfold zfv; rw [h]; rfl) (.inl rfl)
end Go.Pvm.S
