/- Part of the proof: writing ahead, plainly: what is on the device is not ahead of the stream. -/
import Derived.Test.YtceokplopachgaaPolR
set_option linter.unusedSimpArgs false
set_option linter.unusedVariables false
namespace Go.Pvm.S
open Go.Pvm Go.Proofs
def Wd (N : Nat) (b : By) : Prop := ∀ k,k % 2 = 0 → (b.getD k 0).toNat ≤ N ∧ b.getD (k + 1) 0 = 0
section
variable {N M : Nat} {a b : By}
theorem Wd.mono (h : Wd N b) (hm : N ≤ M) : Wd M b := fun k hk => ⟨Nat.le_trans (h k hk).1 hm,(h k hk).2⟩
theorem Wd.take (h : Wd N b) (n : Nat) (hn : n % 2 = 0) : Wd N (b.take n) := fun k hk => by
 have e : ∀ k,(b.take n).getD k 0 = if k < n then b.getD k 0 else 0 := fun k => by
  rw [List.getD_eq_getElem?_getD,List.getElem?_take,List.getD_eq_getElem?_getD]
  split <;> rfl
 rw [e,e]
 by_cases c : k < n
 ·rw [if_pos c,if_pos (by omega)]; exact h k hk
 ·rw [if_neg c,if_neg (by omega)]; exact ⟨Nat.zero_le _,rfl⟩
theorem Wd.drop (h : Wd N b) (n : Nat) (hn : n % 2 = 0) : Wd N (b.drop n) := fun k hk => by
 have e : ∀ k,(b.drop n).getD k 0 = b.getD (n + k) 0 := fun k => by
  rw [List.getD_eq_getElem?_getD,List.getElem?_drop,List.getD_eq_getElem?_getD]
 rw [e,e]
 exact h (n + k) (by omega)
theorem Wd.append (h : Wd N a) (h' : Wd N b) (hn : a.length % 2 = 0) : Wd N (a ++ b) := fun k hk => by
 have e : ∀ k,(a ++ b).getD k 0 = if k < a.length then a.getD k 0 else b.getD (k - a.length) 0 := fun k => by
  rw [List.getD_eq_getElem?_getD,List.getElem?_append,List.getD_eq_getElem?_getD,List.getD_eq_getElem?_getD]
  split <;> rfl
 rw [e,e]
 by_cases c : k < a.length
 ·rw [if_pos c,if_pos (by omega)]; exact h k hk
 ·rw [if_neg c,if_neg (by omega),show k + 1 - a.length = (k - a.length) + 1 by omega]; exact h' (k - a.length) (by omega)
theorem Wd.zeros (n : Nat) : Wd N (List.replicate n 0) := fun k _ => by
 have e : ∀ k,(List.replicate n (0 : UInt8)).getD k 0 = 0 := fun k => by
  rw [List.getD_eq_getElem?_getD,List.getElem?_replicate]
  split <;> rfl
 rw [e,e]
 exact ⟨Nat.zero_le _,rfl⟩
theorem Wd.page {c : UInt8} (hc : c.toNat ≤ N) : Wd N (pgB [c,0]) := fun k hk => by
 have e : ∀ k,k < 512 → (pgB [c,0]).getD k 0 = if k % 2 = 0 then c else 0 := fun k hk => by
  rw [List.getD_eq_getElem?_getD,zkl _ hk]
  show [c,0].getD (k % 2) 0 = _
  rcases Nat.mod_two_eq_zero_or_one k with h | h <;> rw [h] <;> rfl
 have e2 : ∀ k,512 ≤ k → (pgB [c,0]).getD k 0 = 0 := fun k hk => by
  rw [List.getD_eq_getElem?_getD,List.getElem?_eq_none (by rw [jw]; exact hk)]
  rfl
 by_cases h : k < 512
 ·rw [e k h,e (k + 1) (by omega),if_pos hk,if_neg (by omega)]; exact ⟨hc,rfl⟩
 ·rw [e2 k (by omega),e2 (k + 1) (by omega)]; exact ⟨Nat.zero_le _,rfl⟩
theorem Wd.put {w : Int × By} {pg : By} (h : Wd N pg) (hw : Wd N w.2) (hl : 128 * w.1.toNat + 128 ≤ pg.length ∧ w.2.length = 128) : Wd N (putP pg w) := by
 unfold putP
 refine ((h.take _ (by omega)).append hw ?_).append (h.drop _ (by omega)) ?_
 ·rw [List.length_take]; omega
 ·rw [List.length_append,List.length_take,hl.2]; omega
end
structure AhD (d : Dv) (N : Nat) : Prop where
 go : d.gone = false
 ar : d.armed = -1
 st : d.seen.st.length = N
 bs : d.seen.base = 0
 tu : ∀ t ∈ d.ts,0 < t.units
 kp : Wd d.kept.st.length d.kept.pg
 sp : Wd d.kept.st.length d.seen.pg
 ws : ∀ w ∈ d.ws,Wd d.kept.st.length w.2
 kN : d.kept.st.length ≤ N
section
variable {P n N : Nat} {T : Int} {d : Dv} {p : Po}
theorem AhD.sync (h : AhD d N) (hI : Inv P T d) : AhD d.sync N ∧ d.sync.kept.st.length = N := by
 have hs := hI.sy h.go
 have e : d.sync = { d with kept := d.seen,ws := [],ts := [] } := by
  unfold Dv.sync
  rw [if_neg (by rw [h.go]; decide),hs]
 rw [e]
 exact ⟨⟨h.go,h.ar,h.st,h.bs,(fun t ht => by cases ht),h.sp.mono (by show _ ≤ d.seen.st.length; rw [h.st]; exact h.kN),h.sp.mono (by show _ ≤ d.seen.st.length; rw [h.st]; exact h.kN),(fun t ht => by cases ht),Nat.le_of_eq h.st⟩,h.st⟩
theorem cnt (d : Dv) (hg : d.gone = false) (ha : d.armed = -1) (n : Int) : d.counts n = (n,d) := by
 unfold Dv.counts
 rw [if_neg (by rw [hg]; decide),if_pos (by rw [ha]; decide)]
theorem AhD.wr1 (h : AhD d N) (hI : Inv P T d) {w : Int × By} (hw : Wd d.kept.st.length w.2) (hl : 0 ≤ w.1 ∧ 128 * w.1.toNat + 128 ≤ 512 * P ∧ w.2.length = 128) : AhD (d.wr1 w) N ∧ (d.wr1 w).kept = d.kept := by
 have e : d.wr1 w = { d with seen := d.seen.put w,ws := d.ws ++ [w] } := by
  have c := cnt ({ d with seen := d.seen.put w } : Dv) h.go h.ar 1
  unfold Dv.wr1
  rw [c]
  rfl
 rw [e]
 exact ⟨⟨h.go,h.ar,h.st,h.bs,h.tu,h.kp,h.sp.put hw ⟨by rw [hI.pl]; exact hl.2.1,hl.2.2⟩,(fun x hx => by
  rcases List.mem_append.1 hx with hx | hx
  ·exact h.ws x hx
  ·rw [List.mem_singleton.1 hx]; exact hw),h.kN⟩,rfl⟩
theorem AhD.wrF {page : Nat} {b : By} (hp : page < P) (hb : b.length = 512) {K : Nat} (hw : Wd K b) : ∀ (k i : Nat) (d : Dv),i + k = 4 → AhD d N → Inv P T d → d.kept.st.length = K → AhD (wrF page b k i d) N ∧ (Go.Pvm.S.wrF page b k i d).kept = d.kept
 | 0,i,d,_,h,_,_ => ⟨h,rfl⟩
 | k + 1,i,d,hi,h,hI,hK => by
   have hl : 0 ≤ ((page * 4 + i : Nat) : Int) ∧ 128 * ((page * 4 + i : Nat) : Int).toNat + 128 ≤ 512 * P ∧ ((b.drop (i * 128)).take 128).length = 128 := by
    refine ⟨by omega,by rw [Int.toNat_natCast]; omega,?_⟩
    rw [List.length_take,List.length_drop]; omega
   have hw' : Wd d.kept.st.length ((b.drop (i * 128)).take 128) := by rw [hK]; exact (hw.drop _ (by omega)).take _ (by decide)
   obtain ⟨h1,h2⟩ := h.wr1 hI (w := (((page * 4 + i : Nat) : Int),(b.drop (i * 128)).take 128)) hw' hl
   obtain ⟨h3,h4⟩ := AhD.wrF hp hb hw k (i + 1) _ (by omega) h1 (hI.wr1 hl) (by rw [h2]; exact hK)
   exact ⟨h3,h4.trans h2⟩
theorem AhD.app (h : AhD d N) : AhD (d.app [1]) (N + 1) ∧ (d.app [1]).kept = d.kept := by
 have e : d.app [1] = { d with seen := d.seen.turn ⟨[1],false,0⟩,ts := d.ts ++ [⟨[1],false,0⟩] } := by
  unfold Dv.app
  have c := cnt { d with seen := d.seen.turn ⟨[1],false,0⟩ } h.go h.ar (([1] : By).length : Nat)
  show (if (({ d with seen := d.seen.turn ⟨[1],false,0⟩ } : Dv).counts (([1] : By).length : Nat)).1 > 0 then _ else _) = _
  rw [c]
  rfl
 have hst : (d.seen.turn ⟨[1],false,0⟩).st.length = N + 1 := by
  show (d.seen.st ++ [1]).length = N + 1
  rw [List.length_append,h.st]; rfl
 rw [e]
 exact ⟨⟨h.go,h.ar,hst,h.bs,(fun t ht => by
  rcases List.mem_append.1 ht with ht | ht
  ·exact h.tu t ht
  ·rw [List.mem_singleton.1 ht]; decide),h.kp,h.sp,h.ws,Nat.le_succ_of_le h.kN⟩,rfl⟩
theorem Wd.crash {K : Nat} (pat : List Bool) : ∀ (ws : List (Int × By)) (x : Dk) (i : Nat),zys P ws → x.pg.length = 512 * P → (∀ w ∈ ws,Wd K w.2) → Wd K x.pg → Wd K (z2q pat x ws i).pg ∧ (z2q pat x ws i).st = x.st
 | [],x,i,_,_,_,h => ⟨h,rfl⟩
 | w :: ws,x,i,hw,hl,hW,h => by
   obtain ⟨h1,h2,h3⟩ := hw w (.head _)
   have hw' : zys P ws := fun y hy => hw y (.tail _ hy)
   have hW' : ∀ w ∈ ws,Wd K w.2 := fun y hy => hW y (.tail _ hy)
   unfold z2q
   split
   ·obtain ⟨a,b⟩ := Wd.crash pat ws (x.put w) (i + 1) hw' (by show (putP x.pg w).length = _; rw [zg8 (by omega) h3,hl]) hW' (h.put (hW w (.head _)) ⟨by omega,h3⟩)
    exact ⟨a,b⟩
   ·exact Wd.crash pat ws x (i + 1) hw' hl hW' h
theorem AhD.crash (h : AhD d N) (hI : Inv P T d) (pat : List Bool) : Wd (d.crash pat 0).seen.st.length (d.crash pat 0).seen.pg := by
 obtain ⟨h1,h2⟩ := Wd.crash pat d.ws d.kept 0 hI.ws hI.kl h.ws h.kp
 have e : z2r (z2q pat d.kept d.ws 0) d.ts 0 = z2q pat d.kept d.ws 0 := by
  have ht := h.tu
  generalize d.ts = ts at ht
  cases ts with
  | nil => rfl
  | cons t ts =>
    unfold z2r
    rw [if_pos (ht t (.head _)),if_neg (by decide)]
 show Wd (z2r (z2q pat d.kept d.ws 0) d.ts 0).st.length (z2r (z2q pat d.kept d.ws 0) d.ts 0).pg
 rw [e,h2]
 exact h1
structure Ah (p : Po) (N : Nat) : Prop where
 d : AhD p.d N
 sy : p.sy ≤ p.d.kept.st.length
 sh : ∀ e ∈ p.m,e.2.place ≤ N ∧ Wd (max e.2.place.toNat p.d.kept.st.length) e.2.b
theorem Ah.syn (h : Ah p N) (hI : Inv P T p.d) (x : Sh) (hx : x.place ≤ N) (hw : Wd (max x.place.toNat p.d.kept.st.length) x.b) : Ah (p.syn x) N ∧ Wd (p.syn x).d.kept.st.length x.b := by
 have hk := h.d.kN
 unfold Po.syn
 by_cases c : x.place > p.sy
 ·rw [if_pos c]
  obtain ⟨h1,h2⟩ := h.d.sync hI
  refine ⟨⟨h1,?_,fun e he => ⟨(h.sh e he).1,(h.sh e he).2.mono ?_⟩⟩,hw.mono ?_⟩
  ·show p.d.sync.seen.base + (p.d.sync.seen.st.length : Nat) ≤ ((p.d.sync.kept.st.length : Nat) : Int)
   rw [h1.bs,h1.st,h2]; omega
  ·show _ ≤ max e.2.place.toNat p.d.sync.kept.st.length
   rw [h2]; omega
  ·show _ ≤ p.d.sync.kept.st.length
   rw [h2]; omega
 ·rw [if_neg c]
  have := h.sy
  exact ⟨h,hw.mono (by omega)⟩
theorem Ah.wr (h : Ah p N) (hK : PoK P n T p) {i : Nat} {k : Int} {x : Sh} (hi : p.m[i]? = some (k,x)) : Ah (p.wr i k x) N := by
 have hm := List.mem_of_getElem? hi
 obtain ⟨r1,r2,r3⟩ := hK.rg _ hm
 obtain ⟨s1,s2⟩ := h.sh _ hm
 obtain ⟨h1,h2⟩ := h.syn hK.iv x s1 s2
 obtain ⟨h3,h4⟩ := AhD.wrF (P := P) (T := T) (N := N) (page := k.toNat) (b := x.b) (by have : k < P := r2; have : 0 ≤ k := r1; omega) r3 h2 4 0 (p.syn x).d (by omega) h1.d (Po.syn_inv hK.iv x) rfl
 refine ⟨h3,?_,fun e he => ?_⟩
 ·show (p.syn x).sy ≤ ((wrF k.toNat x.b 4 0 (p.syn x).d).kept.st.length : Nat)
  rw [h4]; exact h1.sy
 ·show _ ∧ Wd (max _ (wrF k.toNat x.b 4 0 (p.syn x).d).kept.st.length) _
  rw [h4]
  rcases zbt he with rfl | ⟨j,_,hj⟩
  ·exact ⟨s1,h2.mono (by omega)⟩
  ·have hm' : (p.syn x).m = p.m := (p.syn_m x).1
   exact h1.sh e (by rw [hm']; exact List.mem_of_getElem? hj)
theorem Ah.sub (h : Ah p N) {q : Po} (hd : q.d = p.d) (hs : q.sy = p.sy) (hm : ∀ e ∈ q.m,e ∈ p.m) : Ah q N :=
 ⟨by rw [hd]; exact h.d,by rw [hd,hs]; exact h.sy,fun e he => by rw [hd]; exact h.sh e (hm e he)⟩
theorem Ah.out (h : Ah p N) (i : Nat) : Ah (p.out i) N := h.sub rfl rfl fun e he => List.mem_of_mem_eraseIdx he
theorem Ah.lv (h : Ah p N) (hK : PoK P n T p) (was : Int) : Ah (p.lv was) N := by
 unfold Po.lv
 cases hp : wc p.m was with
 | none => exact h
 | some i =>
   cases hg : p.m[i]? with
   | none => simp only [hg]; exact h
   | some e =>
     simp only [hg]
     obtain ⟨hi,hk⟩ := qd hp
     have he : e.1 = was := by
      have := (List.getElem?_eq_some_iff.1 hg).2
      rw [this] at hk; exact hk
     have hg' : p.m[i]? = some (was,e.2) := by rw [hg,← he]
     split
     ·exact (h.wr hK hg').out i
     ·exact h.out i
theorem Ah.rd (h : Ah p N) {k : Int} (hk : 0 ≤ k) : Ah (p.rd k) N := by
 unfold Po.rd
 split
 ·exact h
 ·refine ⟨h.d,h.sy,fun e he => ?_⟩
  rcases List.mem_append.1 he with he | he
  ·exact h.sh e he
  ·rw [List.mem_singleton.1 he]
   refine ⟨by show (0 : Int) ≤ N; omega,?_⟩
   refine Wd.mono ?_ (show p.d.kept.st.length ≤ _ from Nat.le_max_right _ _)
   show Wd _ (((p.d.seen.pg.drop (k.toNat * 512)).take 512))
   exact (h.d.sp.drop _ (by omega)).take _ (by decide)
theorem Ah.letP (h : Ah p N) (hA : PoA P n T p) (hP : P ≤ 64) {k : Int} (hk : 0 ≤ k ∧ k < P) : Ah (p.letP k) N := by
 have h1 : Ah (p.tch k) N := h.sub rfl rfl fun e he => he
 exact (h1.lv (hA.tch hP hk).1 _).rd hk.1
theorem Ah.putP (h : Ah p N) (hA : PoA P n T p) (hP : P ≤ 64) {k : Int} (hk : 0 ≤ k ∧ k < P) {b : By} {place : Int} (hp : place ≤ N) (hb : Wd place.toNat b) : Ah (p.putP k b place) N := by
 have h1 := h.letP hA hP hk
 unfold Po.putP
 split
 ·refine ⟨h1.d,h1.sy,fun e he => ?_⟩
  rcases zbt he with rfl | ⟨j,_,hj⟩
  ·exact ⟨hp,hb.mono (Nat.le_max_left _ _)⟩
  ·exact h1.sh e (List.mem_of_getElem? hj)
 ·exact h1
theorem Ah.evP (h : Ah p N) (hA : PoA P n T p) (k : Int) : Ah (p.evP k) N := by
 unfold Po.evP
 cases hp : wc p.m k with
 | none => exact h
 | some i =>
   cases hg : p.m[i]? with
   | none => simp only [hg]; exact h
   | some e =>
     simp only [hg]
     obtain ⟨hi,hk⟩ := qd hp
     have he : e.1 = k := by
      have := (List.getElem?_eq_some_iff.1 hg).2
      rw [this] at hk; exact hk
     have hg' : p.m[i]? = some (k,e.2) := by rw [hg,← he]
     have h2 : Ah (if e.2.dirty = true then p.wr i k e.2 else p) N := by
      split
      ·exact h.wr hA.k hg'
      ·exact h
     exact (h2.sub (q := { (if e.2.dirty = true then p.wr i k e.2 else p) with c := (w7 p.c k).1 }) rfl rfl fun e he => he).out i
theorem Ah.fold : ∀ (L : List Int) {p : Po},Ah p N → PoA P n T p → (∀ k ∈ L,k ∈ p.ins) → Ah (L.foldl Po.wrk p) N
 | [],p,h,_,_ => h
 | k :: L,p,h,hA,hL => by
   obtain ⟨h1,h2,_⟩ := z1n hA (hL k (.head _))
   refine Ah.fold L (p := p.wrk k) ?_ h1 (fun j hj => by rw [h2]; exact hL j (.tail _ hj))
   have hk' : k ∈ p.m.map (·.1) := (z1e p).mem_iff.1 (hL k (.head _))
   obtain ⟨⟨k',x⟩,hx,rfl⟩ := List.mem_map.1 hk'
   obtain ⟨i,a1,a2,a3⟩ := ztd hA.k.nd hx
   rw [a3]
   exact h.wr hA.k a2
theorem Ah.flush (h : Ah p N) (hA : PoA P n T p) : Ah p.flush N := h.fold p.dirts hA fun k hk => (List.mem_filter.1 hk).1
theorem Ah.app (h : Ah p N) : Ah { p with d := p.d.app [1] } (N + 1) := by
 obtain ⟨h1,h2⟩ := h.d.app
 exact ⟨h1,by show p.sy ≤ ((p.d.app [1]).kept.st.length : Nat); rw [h2]; exact h.sy,fun e he => by
  show _ ∧ Wd (max _ (p.d.app [1]).kept.st.length) _
  rw [h2]
  exact ⟨by have := (h.sh e he).1; omega,(h.sh e he).2⟩⟩
theorem Ah.new (hP : 1 ≤ P) (m : Int) : Ah (Po.new (Dv.new P) m) 0 :=
 ⟨⟨rfl,rfl,rfl,rfl,(fun t ht => by cases ht),Wd.zeros _,Wd.zeros _,(fun t ht => by cases ht),Nat.le_refl _⟩,Int.le_refl _,fun e he => by cases he⟩
end
end Go.Pvm.S
set_option linter.unusedSimpArgs false
set_option linter.unusedVariables false
set_option maxRecDepth 100000
namespace Go.Pvm.S
open Go.Pvm Go.Proofs
theorem szB : qk Try.prog 5 = some 1 := by kernel_rfl
section
variable {P n w t N : Nat} {T : Int} {did pid mid id : Nat} {g g' : Nat → Nat} {σ τ : Store} {p : Po} {u v a0 a1 : PV} {b l : By} {a : Ac}
theorem Wr.set (h : Wr RB σ 1 v l) {i : Nat} (hi : i < l.length) (c : UInt8) : ∃ r τ,zh Try.prog 33 v (.int .i64 (i : Nat)) = some r ∧ zu Try.prog σ 5 r (.int .u8 ((c.toNat : Nat) : Int)) = some τ ∧ Wr RB τ 1 v (l.set i c) ∧ Mod σ τ (tops v) := by
 obtain ⟨p,cap,es,rfl,h1,h2,h3,h4⟩ := h
 have hel := h3.len
 have hk := List.getElem?_eq_getElem (show 0 + i < es.length by omega)
 have hsz : es[0 + i].length = 1 := (okB.els h3).len _ (List.getElem_mem _)
 refine ⟨_,_,zmn TB.u TB.el.hsz hi .i64,zyg szB h2 (Nat.zero_le _) hk hsz rfl rfl,⟨p,cap,_,by rw [List.length_set],?_,xa _ _ _,?_,h4⟩,Mod.put (.head _)⟩
 ·rw [List.length_set]; exact h1
 ·rw [Nat.zero_add]
  exact h3.set (show RB [.int .u8 ((c.toNat : Nat) : Int)] c from rfl) i
theorem z4k (h0 : 0 < b.length) (hb : b.length < 4611686018427387904) (hd : ∀ i ∈ tops a0,i ∉ tops v) : ∀ (k i : Nat) (σ : Store) (q : By),i + k = 512 → q.length = 512 → Wr RB σ 1 v q → QS RB σ 1 a0 b → (∀ j < i,q[j]? = some (b.getD (j % b.length) 0)) →
  ∃ τ,y2 cfg 13 z3w (z3q a0 v (i : Nat)) σ = some (.exit 0,z3e v,τ) ∧ Wr RB τ 1 v (pgB b) ∧ Mod σ τ (tops v) := by
 intro k
 induction k with
 | zero =>
   intro i σ q hi hq hw ha h1
   have e : q = pgB b := List.ext_getElem? fun j => by
    by_cases hj : j < 512
    ·rw [h1 j (by omega),zkl b hj]
    ·rw [List.getElem?_eq_none (by omega),List.getElem?_eq_none (by rw [jw]; omega)]
   refine ⟨σ,yi ((z39 _ _ _ _ _ _).trans ?_),e ▸ hw,⟨Nat.le_refl _,fun _ _ _ => rfl⟩⟩
   rw [if_neg (by rw [decide_eq_true_eq]; omega)]
 | succ k ih =>
   intro i σ q hi hq hw ha h1
   have ev := z39 (ze cfg) (y2 cfg) σ a0 v (i : Nat)
   have hm : i % b.length < b.length := Nat.mod_lt _ h0
   obtain ⟨r1,x1,x2⟩ := z0f ha hm
   obtain ⟨r2,τ1,y1,y2,y3,y4⟩ := Wr.set hw (show i < q.length by omega) (b.getD (i % b.length) 0)
   rw [if_pos (by rw [decide_eq_true_eq]; omega),ha.len TB,za,zb,if_pos (by rw [decide_eq_true_eq]; omega),za,zb,zz7 _ h0,za,zb,x1,za,x2,za,zb,y1,za,y2,za,y6 (by omega)] at ev
   obtain ⟨τ2,z1,z2,z3⟩ := ih (i + 1) τ1 _ (by omega) (by rw [List.length_set]; exact hq) y3 (ha.mod y4 hd) (fun j hj => by
    by_cases e : j = i
    ·subst e; rw [List.getElem?_set_self (by omega)]
    ·rw [List.getElem?_set_ne (by omega)]; exact h1 j (by omega))
   exact ⟨τ2,yi (ev.trans z1),z2,Nat.le_trans y4.1 z3.1,fun i hi hn => (z3.2 i (Nat.lt_of_lt_of_le hi y4.1) hn).trans (y4.2 i hi hn)⟩
theorem z4b (ha : QS RB σ 1 a0 b) (h0 : 0 < b.length) (hb : b.length < 4611686018427387904) : ∃ τ cap,ze cfg 13 [a0] σ = some (.lsl σ.next 1 0 512 cap,τ) ∧ τ.objs σ.next = some (.cells 0 ((pgB b).map cB)) ∧ σ.next < τ.next ∧ Mod σ τ [] := by
 have ev := z4w (ze cfg) (y2 cfg) σ a0
 have m1 : qw Try.prog σ 33 (.int .i64 512) (.int .i64 512) = some (.lsl σ.next 1 0 512 (some 512),σ.push (.cells 0 (List.replicate 512 [.int .u8 0]))) := msB σ 512 (by decide)
 have hw : Wr RB (σ.push (.cells 0 (List.replicate 512 [.int .u8 0]))) 1 (.lsl σ.next 1 0 512 (some 512)) (List.replicate 512 (0 : UInt8)) :=
  ⟨σ.next,some 512,_,by rw [List.length_replicate],.inr (by rw [List.length_replicate]),zn _ _,by
   have := All2.fn cB (List.replicate 512 (0 : UInt8))
   rw [show (List.replicate 512 (0 : UInt8)).map cB = List.replicate 512 [.int .u8 0] from List.map_replicate ..] at this
   exact this,Nat.lt_succ_self _⟩
 obtain ⟨τ,l1,l2,l3⟩ := z4k (v := .lsl σ.next 1 0 512 (some 512)) h0 hb (fun i hi hn => by
  rw [List.mem_singleton.1 hn] at hi
  exact Nat.lt_irrefl _ (ha.lt _ hi)) 512 0 _ _ (by omega) List.length_replicate hw (ha.mod (Mod.push σ _ []) fun _ _ => by simp) (fun j hj => absurd hj (Nat.not_lt_zero _))
 rw [zp3] at l1
 rw [m1,za,l1,za,ya,if_pos rfl] at ev
 simp only [out13_3_3] at ev
 obtain ⟨q,cap,es,e1,e2,e3,e4,e5⟩ := l2
 cases e1
 have he : es = (pgB b).map cB := e4.toMap
 rw [he] at e3
 refine ⟨τ,some 512,zf (hT _) ev,e3,e5,Nat.le_of_lt e5,fun i hi _ => ?_⟩
 exact (l3.2 i (Nat.lt_succ_of_lt hi) (fun hm => by rw [List.mem_singleton.1 hm] at hi; exact Nat.lt_irrefl _ hi)).trans (yj hi)
theorem PoR.put7 {vs : PV} {ids : List Nat} (r : PoR g σ pid did mid p vs ids) {i : Nat} (hi : g i = 7) (o : Obj) : PoR g (σ.put i o) pid did mid p vs ids := by
 have hne : ∀ j,8 ≤ g j → j ≠ i := fun j h1 e => by subst e; omega
 exact {
  g9 := r.g9,gA := r.gA,lp := r.lp,lm := r.lm
  po := (yb (hne pid (by rw [r.g9]; decide))).trans r.po
  sp := r.sp
  mo := (yb (hne mid (by rw [r.gA]; decide))).trans r.mo
  il := r.il,nd := r.nd
  sh := fun j hj => by
   obtain ⟨h1,h2,u,h3,h4⟩ := r.sh j hj
   exact ⟨h1,h2,u,(yb (hne _ (by rw [h1]; decide))).trans h3,h4⟩ }
theorem z34 {c2 : Cfg} (hm : c2.mode 40 = .pure) (hP : c2.P = Try.prog) (hst : c2.strict = false) {ro : Nat} {cap : Option Nat} (ho : σ.objs id = some (.cells ro (b.map cB))) (hlt : id < σ.next) (hb : b.length = 512) : ∃ v',zi c2 (ze cfg) 40 [.lsl id 1 0 512 cap] σ = some (v',σ.put id (.cells 512 (b.map cB))) ∧ IsS RB v' b := by
 have hq : QS RB σ 1 (.lsl id 1 0 512 cap) b := ⟨b.map cB,.inr ⟨id,0,cap,ro,b.map cB,by rw [List.length_map,hb],ho,by omega,by rw [List.drop_zero,List.take_of_length_le (Nat.le_refl _)],hlt⟩,All2.fn cB b⟩
 have hf := hq.frz okB 6
 obtain ⟨u,τ,h1,h2,h3,h4,h5,h6,h7⟩ := zmb hf (by omega) 0
 have hr : IsS RB (fz zp τ u) b := h6.frz okB 6
 refine ⟨fz zp τ u,?_,hr⟩
 unfold zi qq
 rw [if_pos (by rw [hP]; kernel_rfl),hm]
 simp only
 have he : Store.empty = Store.at_ 0 := rfl
 have hmm : [PV.lsl id 1 0 512 cap].map (fz zp σ) = [fz (6 + 2) σ (.lsl id 1 0 512 cap)] := rfl
 rw [hmm,he,h1]
 simp only [Option.bind_some]
 have hsc : ¬ (fz zp τ u).scalar = true := by
  obtain ⟨es,h8,h9⟩ := hr
  rcases h8 with ⟨h8,rfl⟩ | ⟨bb,h8⟩
  ·cases h9; cases hb
  ·rw [h8]; exact fun h => by cases h
 have hal : ((b.map cB).all fun e => PV.lf.lfs e) = true := by
  rw [List.all_eq_true]
  intro e he
  obtain ⟨c,_,rfl⟩ := List.mem_map.1 he
  rfl
 rw [if_neg hsc,hst]
 simp only [Bool.false_eq_true,if_false]
 rw [show tops.topss [PV.lsl id 1 0 512 cap] = [id] from rfl]
 unfold ke
 rw [ho]
 simp only [hal,if_true]
 unfold ke
 rw [List.length_map,hb]
 rfl
theorem St.putL (h : St P n w t T did pid mid g σ p) (hP : P ≤ 64) (hT' : T ≤ 900000000) (hw : w ≤ 300000) (ht : t ≤ 300000) {k : Int} (hk : 0 ≤ k ∧ k < P) {cap : Option Nat} (ho : σ.objs id = some (.cells 0 (b.map cB))) (hg : g id = 7) (hlt : id < σ.next) (hb : b.length = 512) (place : Int) :
  ∃ g' τ,ze cfg 12 [.ref pid 0 0,.int .i64 k,.lsl id 1 0 512 cap,.int .i64 place] σ = some (.int .i64 0,τ) ∧ St P n (w + 4) t T did pid mid g' τ (p.putP k b place) ∧ OutP g σ g' τ := by
 obtain ⟨vs,ids,r⟩ := h.r
 have l1 := h.l.w
 have l2 := h.l.t
 have hd := h.d
 have hK := h.a.k
 have ev := zzz (ze cfg) (y2 cfg) σ pid 0 0 k (.lsl id 1 0 512 cap) place
 have h1 := zvk (c2 := zf2) rfl rfl ⟨hd,vs,ids,r⟩
 have hpg := zak (c2 := zf2) rfl rfl hd hK.iv.pl (by omega)
 obtain ⟨g1,τ1,vs',ids',i,a1,a2,a3,a4,a5⟩ := zwf hd r hK hP hT' (by omega) (by omega) hk (hK.ck.touch hk.1 (by omega)).1
 have cl : zi zf2 (ze cfg) 39 [.ref pid 0 0,.int .i64 k] σ = some (.ref (ids'.getD i 0) 0 0,τ1) := by rw [zk rfl (by kernel_rfl)]; exact a1
 have hA := (h.a.put hP hk hb place).1
 have hL := h.l.put k b place
 have hq : QS RB σ 1 (.lsl id 1 0 512 cap) b := ⟨b.map cB,.inr ⟨id,0,cap,0,b.map cB,by rw [List.length_map,hb],ho,by omega,by rw [List.drop_zero,List.take_of_length_le (Nat.le_refl _)],hlt⟩,All2.fn cB b⟩
 have hg1 : g1 id = 7 := by rw [a5.2.1 id hlt]; exact hg
 obtain ⟨ro,ho1⟩ : ∃ ro,τ1.objs id = some (.cells ro (b.map cB)) := by
  rcases a5.2.2 id hlt (.inl hg) with e | ⟨_,ro',es,e1,e2⟩
  ·exact ⟨0,e.trans ho⟩
  ·rw [ho] at e1; cases e1; exact ⟨_,e2⟩
 have hlt1 : id < τ1.next := Nat.lt_of_lt_of_le hlt a5.1
 suffices hs : ∃ g' τ vs' ids',ze cfg 12 [.ref pid 0 0,.int .i64 k,.lsl id 1 0 512 cap,.int .i64 place] σ = some (.int .i64 0,τ) ∧ DevS g' τ did (p.putP k b place).d ∧ PoR g' τ pid did mid (p.putP k b place) vs' ids' ∧ OutP g σ g' τ by
  obtain ⟨g',τ,vs',ids',c1,c2,c3,c4⟩ := hs
  exact ⟨g',τ,c1,⟨c2,⟨vs',ids',c3⟩,hA,hL⟩,c4⟩
 clear hA hL
 unfold Po.putP
 rw [a2]
 simp only
 generalize p.letP k = q at a2 a3 a4 ⊢
 obtain ⟨hi,hkey⟩ := qd a2
 have hge : q.m[i]? = some (k,(q.m[i]).2) := by rw [List.getElem?_eq_getElem hi,← hkey]
 obtain ⟨u1,j1,j2⟩ := z34 (c2 := zf2) (id := id) (cap := cap) rfl rfl rfl ho1 hlt1 hb
 have a4 := PoR.put7 a4 hg1 (.cells 512 (b.map cB))
 have a3 : DevS g1 (τ1.put id (.cells 512 (b.map cB))) did q.d := a3.mod (Mod.put (ids := [id]) (.head _)) fun j hj _ => by rw [List.mem_singleton.1 hj,hg1]; decide
 have a6 : OutP g σ g1 (τ1.put id (.cells 512 (b.map cB))) := a5.trans ⟨Nat.le_refl _,fun _ _ => rfl,fun j hj h7 => by
  by_cases e : j = id
  ·subst e
   exact .inr ⟨hg1,ro,b.map cB,ho1,by rw [xa,List.length_map,hb]⟩
  ·exact .inl (yb e)⟩
 generalize τ1.put id (.cells 512 (b.map cB)) = τ2 at a3 a4 a6 j1
 obtain ⟨g8,lt8,u0,ob,hu0⟩ := a4.sh i hi
 have s1 := zbi (σ := τ2) (off := 0) (v := u1) otB ob (by show 0 < 3; decide) (by have h9 := j2.plain; cases u1 <;> first | rfl | cases h9) (wx j2.plain)
 have s2 := zbi (σ := τ2.put (ids'.getD i 0) (.cells 0 [[u1,.bool (q.m[i]).2.dirty,.int .i64 (q.m[i]).2.place]])) (off := 1) (v := .bool true) oBool (xa _ _ _) (by show 1 < 3; decide) rfl rfl
 rw [zel] at s2
 have s3 := zbi (σ := τ2.put (ids'.getD i 0) (.cells 0 [[u1,.bool true,.int .i64 (q.m[i]).2.place]])) (off := 2) (v := .int .i64 place) oInt (xa _ _ _) (by show 2 < 3; decide) rfl rfl
 rw [zel] at s3
 have e1 : [u0,.bool (q.m[i]).2.dirty,.int .i64 (q.m[i]).2.place].set 0 u1 = [u1,.bool (q.m[i]).2.dirty,.int .i64 (q.m[i]).2.place] := rfl
 have e2 : [u1,.bool (q.m[i]).2.dirty,.int .i64 (q.m[i]).2.place].set 1 (.bool true) = [u1,.bool true,.int .i64 (q.m[i]).2.place] := rfl
 have e3 : [u1,.bool true,.int .i64 (q.m[i]).2.place].set 2 (.int .i64 place) = [u1,.bool true,.int .i64 place] := rfl
 rw [e1] at s1
 rw [e2] at s2
 rw [e3] at s3
 have n5 : (((512 : Nat) : Int) != 512) = false := rfl
 rw [h1,za,zc,if_neg (by decide),if_neg (by simp; omega),r.ldD,za,hpg,za,zb,if_neg (by simp; omega),hq.len TB,za,zb,hb,if_neg (by rw [n5]; decide),cl,za,j1,za,nvR,za,(zvc _).1,za,s1,za,za,(zvc _).2.1,za,s2,za,za,(zvc _).2.2,za,s3,za] at ev
 have r2 := a4.setSh (y := ⟨b,true,place⟩) hge j2
 exact ⟨g1,_,vs',ids',zf (hT _) ev,a3.mod (Mod.put (ids := [ids'.getD i 0]) (.head _)) fun j hj _ => by rw [List.mem_singleton.1 hj,g8]; decide,r2,a6.trans (OutP.put (by rw [g8]; decide))⟩
end
end Go.Pvm.S
