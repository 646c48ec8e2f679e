/- Part of the proof: the pool, plainly: what stays true of it. -/
import Derived.Test.YtceokplopachgaaPolG
set_option linter.unusedSimpArgs false
set_option linter.unusedVariables false
set_option maxRecDepth 100000
namespace Go.Pvm.S
open Go.Pvm Go.Proofs
theorem ztf {page : Nat} {b A : By} (hb : b.length = 512) (hA : 512 * page + 512 ≤ A.length) : ∀ (k i : Nat) (d : Dv),i + k = 4 → d.seen.pg = A.take (512 * page) ++ b.take (128 * i) ++ A.drop (512 * page + 128 * i) → (wrF page b k i d).seen.pg = A.take (512 * page) ++ b ++ A.drop (512 * page + 512)
 | 0,i,d,hi,h => by
   have : i = 4 := by omega
   subst this
   show d.seen.pg = _
   rw [h,show b.take (128 * 4) = b from hbi (by omega)]
 | k + 1,i,d,hi,h => by
   refine ztf hb hA k (i + 1) _ (by omega) ?_
   rw [(zd1 d _).1]
   show putP d.seen.pg _ = _
   unfold putP
   simp only [hax]
   rw [h,show 128 * (page * 4 + i) = 512 * page + 128 * i by omega]
   have l1 : (A.take (512 * page) ++ b.take (128 * i)).length = 512 * page + 128 * i := by simp; omega
   rw [List.take_left' l1,List.drop_append,l1,show (A.take (512 * page) ++ b.take (128 * i)).drop (512 * page + 128 * i + 128) = [] from List.drop_of_length_le (by omega),List.nil_append,List.drop_drop]
   rw [show 512 * page + 128 * i + (512 * page + 128 * i + 128 - (512 * page + 128 * i)) = 512 * page + 128 * (i + 1) by omega,show i * 128 = 128 * i by omega]
   have e : b.take (128 * (i + 1)) = b.take (128 * i) ++ (b.drop (128 * i)).take 128 := by rw [show 128 * (i + 1) = 128 * i + 128 by omega,List.take_add]
   rw [e]
   simp only [hbc]
theorem zm6 {page : Nat} {b : By} {d : Dv} (hb : b.length = 512) (hA : 512 * page + 512 ≤ d.seen.pg.length) : (wrF page b 4 0 d).seen.pg = d.seen.pg.take (512 * page) ++ b ++ d.seen.pg.drop (512 * page + 512) :=
 ztf hb hA 4 0 d rfl (by simp)
theorem zun {page : Nat} {b : By} {d : Dv} (hb : b.length = 512) (hA : 512 * page + 512 ≤ d.seen.pg.length) {j : Int} (hj : 0 ≤ j) : za9 (wrF page b 4 0 d) j = if j = (page : Nat) then b else za9 d j := by
 unfold za9
 rw [zm6 hb hA]
 have lt : (d.seen.pg.take (512 * page)).length = 512 * page := by simp; omega
 by_cases c : j = (page : Nat)
 ·subst c
  rw [if_pos rfl,hax,hbc,List.drop_append,lt,List.drop_of_length_le (by omega),List.nil_append,show page * 512 - 512 * page = 0 by omega,ha8,List.take_append_of_le_length (by omega),hbi (by omega)]
 ·rw [if_neg c]
  rcases ha4 j.toNat page with h | h
  ·rw [hbc,List.drop_append_of_le_length (by omega),List.take_append_of_le_length (by simp; omega),List.drop_take,List.take_take,Nat.min_eq_left (by omega)]
  ·have hlt : page < j.toNat := by omega
   have l2 : (d.seen.pg.take (512 * page) ++ b).length = 512 * page + 512 := by simp; omega
   rw [List.drop_append,l2,List.drop_of_length_le (by omega),List.nil_append,List.drop_drop,show 512 * page + 512 + (j.toNat * 512 - (512 * page + 512)) = j.toNat * 512 by omega]
theorem zsb {P : Nat} {T : Int} {d : Dv} (h : Inv P T d) {k : Int} (hk : 0 ≤ k ∧ k < P) : (za9 d k).length = 512 := by
 unfold za9
 have := h.pl
 simp
 omega
theorem zo7 (d : Dv) : d.sync.seen = d.seen := by unfold Dv.sync; split <;> rfl
theorem z7p (d : Dv) (k : Int) : za9 d.sync k = za9 d k := by unfold za9; rw [zo7]
structure PoA (P n : Nat) (T : Int) (p : Po) : Prop where
 k : PoK P n T p
 cl : ∀ e ∈ p.m,e.2.dirty = false → e.2.b = za9 p.d e.1
 kc : ∀ e ∈ p.m,∃ s ∈ p.c.l,s.p = e.1
section
variable {P n : Nat} {T : Int} {p : Po}
theorem Po.syn_m (p : Po) (x : Sh) : (p.syn x).m = p.m ∧ (p.syn x).c = p.c ∧ (p.syn x).d.seen = p.d.seen := by
 unfold Po.syn
 split
 ·exact ⟨rfl,rfl,zo7 _⟩
 ·exact ⟨rfl,rfl,rfl⟩
theorem Po.syn_inv (h : Inv P T p.d) (x : Sh) : Inv P T (p.syn x).d := by
 unfold Po.syn
 split
 ·exact h.sync
 ·exact h
theorem zg1 {m : List (Int × Sh)} {i : Nat} {k : Int} {x y : Sh} (h : m[i]? = some (k,x)) : (m.set i (k,y)).map (·.1) = m.map (·.1) := by
 apply List.ext_getElem?
 intro j
 rw [List.map_set,List.getElem?_set]
 by_cases e : i = j
 ·subst e
  have := (had.1 h).1
  rw [if_pos rfl,if_pos (by simpa using this),hav,h]; rfl
 ·rw [if_neg e]
theorem zbt {m : List (Int × Sh)} {i : Nat} {k : Int} {y : Sh} {e : Int × Sh} (h : e ∈ m.set i (k,y)) : e = (k,y) ∨ ∃ j,j ≠ i ∧ m[j]? = some e := by
 obtain ⟨j,hj⟩ := hau.1 h
 rw [List.getElem?_set] at hj
 split at hj
 ·split at hj
  ·cases hj; exact .inl rfl
  ·cases hj
 ·rename_i c; exact .inr ⟨j,fun e => c e.symm,hj⟩
theorem zns {m : List (Int × Sh)} (hn : (m.map (·.1)).Nodup) {i j : Nat} {a b : Int × Sh} (hij : j ≠ i) (ha : m[i]? = some a) (hb : m[j]? = some b) : b.1 ≠ a.1 := fun e => by
 have h1 : (m.map (·.1))[j]? = (m.map (·.1))[i]? := by rw [hav,hav,ha,hb]; simp [e]
 exact hij ((List.getElem?_inj (by have := (had.1 hb).1; simpa using this) hn).1 h1)
theorem PoK.wr {P n : Nat} {T : Int} {p : Po} (hk : PoK P n T p) (hcl : ∀ e ∈ p.m,e.2.dirty = false → e.2.b = za9 p.d e.1) {i : Nat} {k : Int} {x : Sh} (hi : p.m[i]? = some (k,x)) : PoK P n T (p.wr i k x) ∧ (∀ e ∈ (p.wr i k x).m,e.2.dirty = false → e.2.b = za9 (p.wr i k x).d e.1) ∧ ∀ j : Int,0 ≤ j → j < P → (p.wr i k x).val j = p.val j := by
 have hm := hk.rg _ (haj hi)
 have hm1 : 0 ≤ k ∧ k < P ∧ x.b.length = 512 := hm
 have hs := Po.syn_m p x
 have hpl : 512 * k.toNat + 512 ≤ (p.syn x).d.seen.pg.length := by rw [hs.2.2,hk.iv.pl]; omega
 have hpg : ∀ j,0 ≤ j → za9 (p.wr i k x).d j = if j = k then x.b else za9 p.d j := fun j hj => by
  show za9 (wrF k.toNat x.b 4 0 (p.syn x).d) j = _
  rw [zun hm1.2.2 hpl hj]
  have e1 : ((k.toNat : Nat) : Int) = k := by omega
  rw [e1]
  unfold za9
  rw [hs.2.2]
 have hc : (p.wr i k x).c = p.c := Po.wr_c p i k x
 refine ⟨⟨?_,by rw [hc]; exact hk.ck,?_,?_⟩,?_,?_⟩
 ·exact Inv.wrF (by omega) hm1.2.2 4 0 _ rfl (Po.syn_inv hk.iv x)
 ·show ((p.m.set i (k,_)).map (·.1)).Nodup
  rw [zg1 hi]
  exact hk.nd
 ·intro e he
  rcases zbt he with rfl | ⟨j,_,hj⟩
  ·exact hm1
  ·exact hk.rg e (haj hj)
 ·intro e he hd
  rcases zbt he with rfl | ⟨j,hne,hj⟩
  ·rw [hpg _ hm1.1,if_pos rfl]
  ·have hr := hk.rg e (haj hj)
   rw [hpg _ hr.1,if_neg (zns hk.nd hne hi hj)]
   exact hcl e (haj hj) hd
 ·intro j h0 h1
  unfold Po.val
  show (match wc (p.m.set i (k,_)) j with | some i' => ((p.m.set i (k,_)).getD i' _).2.b | none => za9 (p.wr i k x).d j) = _
  rw [zg9 hi]
  cases hq : wc p.m j with
  | some i' =>
    simp only
    obtain ⟨hi',hk'⟩ := qd hq
    rw [hai,hai,List.getElem?_set]
    by_cases e : i = i'
    ·subst e
     rw [if_pos rfl,if_pos hi',hi]; rfl
    ·rw [if_neg e]
  | none =>
    simp only
    rw [hpg j h0,if_neg fun e => u9 hq _ (haj hi) e.symm]
theorem PoA.wr (h : PoA P n T p) {i : Nat} {k : Int} {x : Sh} (hi : p.m[i]? = some (k,x)) : PoA P n T (p.wr i k x) ∧ ∀ j : Int,0 ≤ j → j < P → (p.wr i k x).val j = p.val j := by
 obtain ⟨a1,a2,a3⟩ := PoK.wr h.k h.cl hi
 refine ⟨⟨a1,a2,fun e he => ?_⟩,a3⟩
 rw [Po.wr_c]
 rcases zbt he with rfl | ⟨j,_,hj⟩
 ·exact h.kc (k,x) (haj hi)
 ·exact h.kc e (haj hj)
theorem PoA.tch (h : PoA P n T p) (hP : P ≤ 64) {k : Int} (hk : 0 ≤ k ∧ k < P) : PoK P n T (p.tch k) ∧ (∀ e ∈ p.m,e.2.dirty = false → e.2.b = za9 p.d e.1) ∧ Tou n p.c k (j8 p.c k).1 (j8 p.c k).2.2.1 := by
 have ht := (h.k.ck.touch hk.1 (by omega)).2
 exact ⟨⟨h.k.iv,ht.ok,h.k.nd,h.k.rg⟩,h.cl,ht⟩
theorem qe {m : List (Int × Sh)} {i : Nat} {e : Int × Sh} (h : e ∈ m.eraseIdx i) : ∃ j,j ≠ i ∧ m[j]? = some e := by
 obtain ⟨j,hj⟩ := hau.1 h
 rw [List.getElem?_eraseIdx] at hj
 split at hj
 ·exact ⟨j,by omega,hj⟩
 ·exact ⟨j + 1,by omega,hj⟩
theorem zeu {m : List (Int × Sh)} {i j : Nat} {e : Int × Sh} (hj : j ≠ i) (h : m[j]? = some e) : e ∈ m.eraseIdx i := by
 rcases ha4 j i with c | c
 ·exact haj (i := j) (by rw [List.getElem?_eraseIdx,if_pos c]; exact h)
 ·exact haj (i := j - 1) (by rw [List.getElem?_eraseIdx,if_neg (by omega),show j - 1 + 1 = j by omega]; exact h)
theorem zhz {m : List (Int × Sh)} (hn : (m.map (·.1)).Nodup) (i : Nat) : ((m.eraseIdx i).map (·.1)).Nodup := hn.sublist ((List.eraseIdx_sublist m i).map _)
theorem ud (hn : (p.m.map (·.1)).Nodup) {k : Int} {x : Sh} (h : (k,x) ∈ p.m) : p.val k = x.b := by
 obtain ⟨i,hi⟩ := hau.1 h
 have hil := (had.1 hi).1
 have he : p.m[i] = (k,x) := (had.1 hi).2
 unfold Po.val
 rw [zcz hn hil (by rw [he])]
 simp only [zk1 hil,he]
theorem zdc {k : Int} (h : ∀ e ∈ p.m,e.1 ≠ k) : p.val k = za9 p.d k := by
 unfold Po.val
 have : wc p.m k = none := by
  unfold wc
  rw [List.findIdx?_eq_none_iff]
  intro e he
  simpa using h e he
 rw [this]
theorem zmp (m : List (Int × Sh)) (k : Int) : (∃ x,(k,x) ∈ m) ∨ ∀ e ∈ m,e.1 ≠ k := by
 by_cases h : ∃ x,(k,x) ∈ m
 ·exact .inl h
 ·exact .inr fun e he hk => h ⟨e.2,by rw [← hk]; exact he⟩
theorem zj4 {i : Nat} {k : Int} {x : Sh} (hn : (p.m.map (·.1)).Nodup) (hi : p.m[i]? = some (k,x)) (hb : x.b = za9 p.d k) (j : Int) : (p.out i).val j = p.val j := by
 rcases zmp p.m j with ⟨y,hy⟩ | hno
 ·rw [ud hn hy]
  obtain ⟨q,hq⟩ := hau.1 hy
  by_cases e : q = i
  ·subst e
   rw [hi] at hq
   cases hq
   rw [zdc (p := p.out q) (k := k) fun e he => by
    obtain ⟨q',h1,h2⟩ := qe he
    exact zns hn h1 hi h2]
   exact hb.symm
  ·exact ud (p := p.out i) (zhz hn i) (zeu e hq)
 ·rw [zdc hno,zdc (p := p.out i) fun e he => by
   obtain ⟨q,_,h2⟩ := qe he
   exact hno e (haj h2)]
  rfl
theorem PoK.out (h : PoK P n T p) (i : Nat) : PoK P n T (p.out i) := ⟨h.iv,h.ck,zhz h.nd i,fun e he => by
 obtain ⟨q,_,h2⟩ := qe he
 exact h.rg e (haj h2)⟩
theorem PoA.lv {P n : Nat} {T : Int} {p : Po} {was : Int} (hk : PoK P n T p) (hc : ∀ e ∈ p.m,e.2.dirty = false → e.2.b = za9 p.d e.1) : PoK P n T (p.lv was) ∧ (∀ e ∈ (p.lv was).m,e.2.dirty = false → e.2.b = za9 (p.lv was).d e.1) ∧ (p.lv was).c = p.c ∧ (∀ e ∈ (p.lv was).m,e.1 ≠ was ∧ ∃ y,(e.1,y) ∈ p.m) ∧ (∀ e ∈ p.m,e.1 ≠ was → ∃ y,(e.1,y) ∈ (p.lv was).m) ∧ (∀ j : Int,0 ≤ j → j < P → (p.lv was).val j = p.val j) ∧ Inv P T (p.lv was).d ∧ (p.lv was).m.length ≤ p.m.length := by
 unfold Po.lv
 cases hq : wc p.m was with
 | none =>
   exact ⟨hk,hc,rfl,fun e he => ⟨u9 hq e he,e.2,he⟩,fun e he _ => ⟨e.2,he⟩,fun _ _ _ => rfl,hk.iv,hah _⟩
 | some i =>
   obtain ⟨hi,hkey⟩ := qd hq
   have hg := haf hi
   obtain ⟨e,he⟩ : ∃ e,p.m[i] = e := ⟨_,rfl⟩
   rw [he] at hg hkey
   obtain ⟨k,x⟩ := e
   simp only at hkey
   subst hkey
   simp only [hg]
   have hlen : ∀ q : Po,q.m.length = p.m.length → (q.out i).m.length ≤ p.m.length := fun q e => by
    show (q.m.eraseIdx i).length ≤ _
    rw [List.length_eraseIdx]
    split <;> omega
   by_cases hd : x.dirty = true
   ·rw [if_pos hd]
    -- through a pool with no clock to say of
    have A : PoK P n T (p.wr i k x) ∧ (∀ e ∈ (p.wr i k x).m,e.2.dirty = false → e.2.b = za9 (p.wr i k x).d e.1) ∧ ∀ j : Int,0 ≤ j → j < P → (p.wr i k x).val j = p.val j := PoK.wr hk hc hg
    obtain ⟨a1,a2,a3⟩ := A
    have hi1 : (p.wr i k x).m[i]? = some (k,{ x with dirty := false }) := ha3 hi
    have hcl := a2 _ (haj hi1) rfl
    refine ⟨a1.out i,fun e he hd => ?_,?_,fun e he => ?_,fun e he hne => ?_,fun j h0 h1 => ?_,a1.iv,?_⟩
    ·obtain ⟨q,_,h2⟩ := qe he
     exact a2 e (haj h2) hd
    ·exact Po.wr_c p i k x
    ·obtain ⟨q,h1,h2⟩ := qe he
     have h3 : (p.m.set i (k,{ x with dirty := false }))[q]? = some e := h2
     rw [ha5 (fun e => h1 e.symm)] at h3
     exact ⟨zns hk.nd h1 hg h3,e.2,haj h3⟩
    ·obtain ⟨q,hq2⟩ := hau.1 he
     have hqi : q ≠ i := fun e' => by subst e'; rw [hg] at hq2; cases hq2; exact hne rfl
     exact ⟨e.2,zeu hqi ((ha5 (fun e => hqi e.symm)).trans hq2)⟩
    ·rw [zj4 a1.nd hi1 hcl,a3 j h0 h1]
    ·exact hlen _ (by show (p.m.set i _).length = _; rw [List.length_set])
   ·rw [if_neg hd]
    refine ⟨hk.out i,fun e he hd => ?_,rfl,fun e he => ?_,fun e he hne => ?_,fun j h0 h1 => ?_,hk.iv,hlen p rfl⟩
    ·obtain ⟨q,_,h2⟩ := qe he
     exact hc e (haj h2) hd
    ·obtain ⟨q,h1,h2⟩ := qe he
     exact ⟨zns hk.nd h1 hg h2,e.2,haj h2⟩
    ·obtain ⟨q,hq2⟩ := hau.1 he
     have hqi : q ≠ i := fun e' => by subst e'; rw [hg] at hq2; cases hq2; exact hne rfl
     exact ⟨e.2,zeu hqi hq2⟩
    ·exact zj4 hk.nd hg (hc (k,x) (haj hg) (by simpa using hd)) j
end
end Go.Pvm.S
