/- Part of the proof: the pool, plainly: letting in, putting, letting out. -/
import Derived.Test.YtceokplopachgaaPolH
set_option linter.unusedSimpArgs false
set_option linter.unusedVariables false
set_option maxRecDepth 100000
namespace Go.Pvm.S
open Go.Pvm Go.Proofs
section
variable {P n : Nat} {T : Int} {p : Po}
structure Lim (w t : Nat) (p : Po) : Prop where
 w : p.d.ws.length ≤ w
 t : p.d.ts.length ≤ t
theorem Lim.mono {w t w' t' : Nat} (h : Lim w t p) (h1 : w ≤ w') (h2 : t ≤ t') : Lim w' t' p := ⟨haz h.w h1,haz h.t h2⟩
theorem zlt (d : Dv) : d.sync.ws.length ≤ d.ws.length ∧ d.sync.ts.length ≤ d.ts.length := by
 unfold Dv.sync
 split
 ·exact ⟨hah _,hah _⟩
 ·exact ⟨hbe _,hbe _⟩
theorem Lim.wr {w t : Nat} (h : Lim w t p) (i : Nat) (k : Int) (x : Sh) : Lim (w + 4) t (p.wr i k x) := by
 have h1 : (p.syn x).d.ws.length ≤ w ∧ (p.syn x).d.ts.length ≤ t := by
  unfold Po.syn
  split
  ·exact ⟨haz (zlt p.d).1 h.w,haz (zlt p.d).2 h.t⟩
  ·exact ⟨h.w,h.t⟩
 obtain ⟨f1,f2,_⟩ := zte (page := k.toNat) (b := x.b) 4 0 (p.syn x).d
 exact ⟨by show (wrF k.toNat x.b 4 0 (p.syn x).d).ws.length ≤ _; omega,by show (wrF k.toNat x.b 4 0 (p.syn x).d).ts.length ≤ _; rw [f2]; exact h1.2⟩
theorem Lim.lv {w t : Nat} (h : Lim w t p) (was : Int) : Lim (w + 4) t (p.lv was) := by
 unfold Po.lv
 split
 ·exact h.mono (by omega) (hah _)
 ·split
  ·exact h.mono (by omega) (hah _)
  ·rename_i i _ _ e _
   split
   ·exact ⟨(h.wr i was e.2).w,(h.wr i was e.2).t⟩
   ·exact ⟨haz h.w (by omega),h.t⟩
theorem Lim.rd {w t : Nat} (h : Lim w t p) (k : Int) : Lim w t (p.rd k) := by
 unfold Po.rd
 split
 ·exact h
 ·exact ⟨h.w,h.t⟩
theorem Lim.letP {w t : Nat} (h : Lim w t p) (k : Int) : Lim (w + 4) t (p.letP k) := by
 unfold Po.letP
 exact (Lim.lv (p := p.tch k) ⟨h.w,h.t⟩ _).rd k
theorem zl4 {k : Int} {e : Int × Sh} (h : e ∈ (p.rd k).m) : e ∈ p.m ∨ (e = (k,⟨za9 p.d k,false,0⟩) ∧ ∀ e ∈ p.m,e.1 ≠ k) := by
 unfold Po.rd at h
 split at h
 ·exact .inl h
 ·rename_i hq
  rcases hbn.1 h with h | h
  ·exact .inl h
  ·exact .inr ⟨ham.1 h,u9 hq⟩
theorem zuk {k : Int} {e : Int × Sh} (h : e ∈ p.m) : e ∈ (p.rd k).m := by
 unfold Po.rd
 split
 ·exact h
 ·exact List.mem_append_left _ h
theorem zwn (p : Po) (k : Int) : ∃ x,(k,x) ∈ (p.rd k).m := by
 unfold Po.rd
 split
 ·rename_i i hq
  obtain ⟨hi,hk⟩ := qd hq
  exact ⟨(p.m[i]).2,by rw [← hk]; exact List.getElem_mem hi⟩
 ·exact ⟨_,List.mem_append_right _ (.head _)⟩
theorem zzp (p : Po) (k : Int) : (p.rd k).d = p.d ∧ (p.rd k).c = p.c ∧ (p.rd k).sy = p.sy := by unfold Po.rd; split <;> exact ⟨rfl,rfl,rfl⟩
theorem PoK.rd (hk : PoK P n T p) (hc : ∀ e ∈ p.m,e.2.dirty = false → e.2.b = za9 p.d e.1) {k : Int} (h : 0 ≤ k ∧ k < P) : PoK P n T (p.rd k) ∧ (∀ e ∈ (p.rd k).m,e.2.dirty = false → e.2.b = za9 (p.rd k).d e.1) ∧ ∀ j : Int,(p.rd k).val j = p.val j := by
 have hd := zzp p k
 have hnd : ((p.rd k).m.map (·.1)).Nodup := by
  unfold Po.rd
  split
  ·exact hk.nd
  ·rename_i hq
   rw [List.map_append]
   refine List.nodup_append.2 ⟨hk.nd,by simp,fun a ha b hb => ?_⟩
   rw [List.map_cons,List.map_nil,ham] at hb
   subst hb
   obtain ⟨e,he,rfl⟩ := List.mem_map.1 ha
   exact u9 hq e he
 refine ⟨⟨by rw [hd.1]; exact hk.iv,by rw [hd.2.1]; exact hk.ck,hnd,fun e he => ?_⟩,fun e he hq => ?_,fun j => ?_⟩
 ·rcases zl4 he with he | ⟨rfl,_⟩
  ·exact hk.rg e he
  ·exact ⟨h.1,h.2,zsb hk.iv h⟩
 ·rw [hd.1]
  rcases zl4 he with he | ⟨rfl,_⟩
  ·exact hc e he hq
  ·rfl
 ·rcases zmp p.m j with ⟨y,hy⟩ | hno
  ·rw [ud hk.nd hy,ud hnd (zuk hy)]
  ·rw [zdc hno]
   rcases zmp (p.rd k).m j with ⟨y,hy⟩ | hno2
   ·rw [ud hnd hy]
    rcases zl4 hy with he | ⟨he,_⟩
    ·exact absurd rfl (hno _ he)
    ·cases he; rfl
   ·rw [zdc hno2,hd.1]
theorem PoA.letP (h : PoA P n T p) (hP : P ≤ 64) {k : Int} (hk : 0 ≤ k ∧ k < P) : PoA P n T (p.letP k) ∧ (∀ j : Int,0 ≤ j → j < P → (p.letP k).val j = p.val j) ∧ ∃ x,(k,x) ∈ (p.letP k).m := by
 obtain ⟨a1,a2,a3⟩ := h.tch hP hk
 obtain ⟨b1,b2,b3,b4,b5,b6,_⟩ := PoA.lv (p := p.tch k) (was := (j8 p.c k).2.2.1) a1 a2
 obtain ⟨c1,c2,c3⟩ := b1.rd b2 hk
 have hd := zzp ((p.tch k).lv (j8 p.c k).2.2.1) k
 unfold Po.letP
 refine ⟨⟨c1,c2,fun e he => ?_⟩,fun j h0 h1 => (c3 j).trans (b6 j h0 h1),zwn _ k⟩
 rw [hd.2.1,b3]
 rcases zl4 he with he | ⟨rfl,_⟩
 ·obtain ⟨d1,y,d2⟩ := b4 e he
  obtain ⟨s,s1,s2⟩ := h.kc _ d2
  have hr := h.k.rg _ d2
  rcases a3.old s s1 (by rw [s2]; exact hr.1) with e1 | ⟨t,t1,t2⟩
  ·rw [s2] at e1; exact absurd e1 d1
  ·exact ⟨t,t1,t2.trans s2⟩
 ·exact a3.has
theorem PoA.len (h : PoA P n T p) (hP : P ≤ 64) {k : Int} (hk : 0 ≤ k ∧ k < P) : ((p.letP k).val k).length = 512 := by
 obtain ⟨a,_,x,hx⟩ := h.letP hP hk
 rw [ud a.k.nd hx]
 exact (a.k.rg _ hx).2.2
theorem PoA.put (h : PoA P n T p) (hP : P ≤ 64) {k : Int} (hk : 0 ≤ k ∧ k < P) {b : By} (hb : b.length = 512) (place : Int) : PoA P n T (p.putP k b place) ∧ ∀ j : Int,0 ≤ j → j < P → (p.putP k b place).val j = if j = k then b else p.val j := by
 obtain ⟨a,a2,x,hx⟩ := h.letP hP hk
 obtain ⟨i,hi⟩ := hau.1 hx
 have hil := (had.1 hi).1
 have he := (had.1 hi).2
 have hq := zcz a.k.nd hil (by rw [he])
 unfold Po.putP
 rw [hq]
 simp only
 generalize p.letP k = q at a a2 hx hi hil he hq ⊢
 have hnd : ((q.m.set i (k,(⟨b,true,place⟩ : Sh))).map (·.1)).Nodup := by rw [zg1 hi]; exact a.k.nd
 refine ⟨⟨⟨a.k.iv,a.k.ck,hnd,fun e he => ?_⟩,fun e he hd => ?_,fun e he => ?_⟩,fun j h0 h1 => ?_⟩
 ·rcases zbt he with rfl | ⟨j,_,hj⟩
  ·exact ⟨hk.1,hk.2,hb⟩
  ·exact a.k.rg e (haj hj)
 ·rcases zbt he with rfl | ⟨j,_,hj⟩
  ·cases hd
  ·exact a.cl e (haj hj) hd
 ·rcases zbt he with rfl | ⟨j,_,hj⟩
  ·exact a.kc (k,x) hx
  ·exact a.kc e (haj hj)
 ·by_cases c : j = k
  ·subst c
   rw [if_pos rfl]
   exact ud (p := { q with m := q.m.set i (j,⟨b,true,place⟩) }) hnd (haj (ha3 hil))
  ·rw [if_neg c,← a2 j h0 h1]
   rcases zmp q.m j with ⟨y,hy⟩ | hno
   ·rw [ud a.k.nd hy]
    obtain ⟨q',hq'⟩ := hau.1 hy
    have hne : i ≠ q' := fun e => by subst e; rw [hi] at hq'; cases hq'; exact c rfl
    exact ud (p := { q with m := q.m.set i (k,⟨b,true,place⟩) }) hnd (haj ((ha5 hne).trans hq'))
   ·rw [zdc hno,zdc (p := { q with m := q.m.set i (k,⟨b,true,place⟩) }) fun e he => by
     rcases zbt he with rfl | ⟨q',_,hj⟩
     ·exact fun e => c e.symm
     ·exact hno e (haj hj)]
theorem Lim.put {w t : Nat} (h : Lim w t p) (k : Int) (b : By) (place : Int) : Lim (w + 4) t (p.putP k b place) := by
 have := h.letP k
 unfold Po.putP
 split
 ·exact ⟨this.w,this.t⟩
 ·exact this
theorem PoA.ev (h : PoA P n T p) {k : Int} : PoA P n T (p.evP k) ∧ ∀ j : Int,0 ≤ j → j < P → (p.evP k).val j = p.val j := by
 unfold Po.evP
 cases hq : wc p.m k with
 | none => exact ⟨h,fun _ _ _ => rfl⟩
 | some i =>
   obtain ⟨hi,hkey⟩ := qd hq
   have hg := haf hi
   obtain ⟨e,he⟩ : ∃ e,p.m[i] = e := ⟨_,rfl⟩
   rw [he] at hg hkey
   obtain ⟨k',x⟩ := e
   simp only at hkey
   subst hkey
   simp only [hg]
   have hr := h.k.rg _ (haj hg)
   have hdr := h.k.ck.drop hr.1
   -- whichever way it leaves
   have key : ∀ q : Po,PoA P n T q → q.c = p.c → ∀ y : Sh,q.m[i]? = some (k',y) → y.b = za9 q.d k' → PoA P n T (({ q with c := (w7 p.c k').1 } : Po).out i) ∧ ∀ j : Int,(({ q with c := (w7 p.c k').1 } : Po).out i).val j = q.val j := by
    intro q a hc y hy hb
    refine ⟨⟨⟨a.k.iv,hdr.1,zhz a.k.nd i,fun e he => ?_⟩,fun e he hd => ?_,fun e he => ?_⟩,fun j => zj4 (p := { q with c := (w7 p.c k').1 }) a.k.nd hy hb j⟩
    ·obtain ⟨q',_,h2⟩ := qe he
     exact a.k.rg e (haj h2)
    ·obtain ⟨q',_,h2⟩ := qe he
     exact a.cl e (haj h2) hd
    ·obtain ⟨q',h1,h2⟩ := qe he
     obtain ⟨s,s1,s2⟩ := a.kc e (haj h2)
     rw [hc] at s1
     have h0 := (a.k.rg e (haj h2)).1
     rcases hdr.2.2.1 s s1 (by rw [s2]; exact h0) with e1 | ⟨t,t1,t2⟩
     ·exact absurd (s2.symm.trans e1) (zns (a := (k',y)) a.k.nd h1 hy h2)
     ·exact ⟨t,t1,t2.trans s2⟩
   by_cases hd : x.dirty = true
   ·rw [if_pos hd]
    obtain ⟨a1,a2⟩ := h.wr hg
    have hi1 : (p.wr i k' x).m[i]? = some (k',{ x with dirty := false }) := ha3 hi
    obtain ⟨b1,b2⟩ := key _ a1 (Po.wr_c p i k' x) _ hi1 (a1.cl _ (haj hi1) rfl)
    exact ⟨b1,fun j h0 h1 => (b2 j).trans (a2 j h0 h1)⟩
   ·rw [if_neg hd]
    obtain ⟨b1,b2⟩ := key p h rfl x hg (h.cl _ (haj hg) (by simpa using hd))
    exact ⟨b1,fun j _ _ => b2 j⟩
theorem Lim.ev {w t : Nat} (h : Lim w t p) (k : Int) : Lim (w + 4) t (p.evP k) := by
 unfold Po.evP
 split
 ·exact h.mono (by omega) (hah _)
 ·split
  ·exact h.mono (by omega) (hah _)
  ·rename_i i _ _ e _
   split
   ·exact ⟨(h.wr i k e.2).w,(h.wr i k e.2).t⟩
   ·exact ⟨haz h.w (by omega),h.t⟩
theorem zw0 : ∀ (a b : List Int),a.Nodup → (∀ x ∈ a,x ∈ b) → a.length ≤ b.length
 | [],_,_,_ => hbe _
 | x :: a,b,h,hs => by
   obtain ⟨h1,h2⟩ := List.nodup_cons.1 h
   have hx := hs x (.head _)
   have := zw0 a (b.erase x) h2 fun y hy => (List.mem_erase_of_ne (fun e => by subst e; exact h1 hy)).2 (hs y (.tail _ hy))
   rw [List.length_erase_of_mem hx] at this
   have := List.length_pos_of_mem hx
   rw [List.length_cons]; omega
theorem PoA.few (h : PoA P n T p) : p.m.length ≤ n := by
 have := zw0 (p.m.map (·.1)) (p.c.l.map (·.p)) h.k.nd fun x hx => by
  obtain ⟨e,he,rfl⟩ := List.mem_map.1 hx
  obtain ⟨s,s1,s2⟩ := h.kc e he
  exact List.mem_map.2 ⟨s,s1,s2⟩
 rw [han,han,h.k.ck.ln] at this
 exact this
end
end Go.Pvm.S
