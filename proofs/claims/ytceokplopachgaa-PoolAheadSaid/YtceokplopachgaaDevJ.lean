/- Part of the proof: what is always so of a device (plain). -/
import Derived.Test.YtceokplopachgaaDevI
set_option linter.unusedSimpArgs false
set_option linter.unusedVariables false
set_option maxRecDepth 100000
namespace Go.Pvm.S
open Go.Pvm Go.Proofs
def okt (x : Dk) (t : Tn) : Prop := (t.trim = true → x.base ≤ t.place ∧ t.place ≤ x.base + x.st.length) ∧ (0 ≤ x.base ∧ x.base ≤ 1000000000) ∧ x.st.length + t.b.length ≤ 65536
theorem z3s : ∀ (ts : List Tn) (x : Dk) (t : Tn),oks x ts → okt (ts.foldl Dk.turn x) t → oks x (ts ++ [t])
 | [],x,t,_,h => ⟨h.1,h.2.1,h.2.2,trivial⟩
 | s :: ts,x,t,h,k => ⟨h.1,h.2.1,h.2.2.1,z3s ts _ t h.2.2.2 k⟩
theorem zrs (x : Dk) (w : Int × By) (t : Tn) : (x.put w).turn t = (x.turn t).put w := by
 unfold Dk.turn Dk.put
 split <;> rfl
theorem zdl : ∀ (ts : List Tn) (x : Dk) (w : Int × By),ts.foldl Dk.turn (x.put w) = (ts.foldl Dk.turn x).put w
 | [],_,_ => rfl
 | t :: ts,x,w => by rw [List.foldl_cons,zrs,zdl ts]; rfl
theorem z2t : ∀ (ts : List Tn) (x y : Dk),x.st = y.st → x.base = y.base → (ts.foldl Dk.turn x).st = (ts.foldl Dk.turn y).st ∧ (ts.foldl Dk.turn x).base = (ts.foldl Dk.turn y).base
 | [],_,_,h1,h2 => ⟨h1,h2⟩
 | t :: ts,x,y,h1,h2 => by
   refine z2t ts _ _ ?_ ?_
   ·unfold Dk.turn; split <;> simp [h1,h2]
   ·unfold Dk.turn; split <;> simp [h2]
theorem z3n {x : Dk} {t : Tn} (h : okt x t) {T : Int} (hb : x.base + x.st.length ≤ T) (h0 : 0 ≤ x.base) : 0 ≤ (x.turn t).base ∧ (x.turn t).base + (x.turn t).st.length ≤ T + t.b.length ∧ (x.turn t).st.length ≤ 65536 := by
 obtain ⟨a,b,c⟩ := h
 unfold Dk.turn
 split
 ·rename_i ht
  have := a ht
  simp only [List.length_drop]
  omega
 ·simp only [List.length_append]
  omega
structure Inv (P : Nat) (T : Int) (d : Dv) : Prop where
 hP : 1 ≤ P ∧ P ≤ 1000000
 pl : d.seen.pg.length = 512 * P
 kl : d.kept.pg.length = 512 * P
 arm : -1 ≤ d.armed ∧ d.armed ≤ 9223372036854775807
 ws : zys P d.ws
 st : d.seen.st.length ≤ 65536
 bs : 0 ≤ d.seen.base ∧ d.seen.base + d.seen.st.length ≤ T
 ts : oks d.kept d.ts
 kb : 0 ≤ d.kept.base ∧ d.kept.base + d.kept.st.length ≤ T ∧ d.kept.st.length ≤ 65536
 sy : d.gone = false → d.ts.foldl Dk.turn (d.ws.foldl Dk.put d.kept) = d.seen
 fe : (d.ts.foldl Dk.turn d.kept).base + (d.ts.foldl Dk.turn d.kept).st.length ≤ T
theorem Inv.new {P : Nat} (h : 1 ≤ P ∧ P ≤ 64) : Inv P 0 (Dv.new P) := by
 have hl : (Dk.new P).pg.length = 512 * P := by simp [Dk.new]
 exact ⟨⟨h.1,by omega⟩,hl,hl,⟨show (-1 : Int) ≤ -1 by decide,show (-1 : Int) ≤ 9223372036854775807 by decide⟩,fun w hw => by (cases hw),show 0 ≤ 65536 by decide,⟨show (0 : Int) ≤ 0 by decide,show (0 : Int) + ((0 : Nat) : Int) ≤ 0 by decide⟩,trivial,⟨show (0 : Int) ≤ 0 by decide,show (0 : Int) + ((0 : Nat) : Int) ≤ 0 by decide,show 0 ≤ 65536 by decide⟩,fun _ => rfl,show (0 : Int) + ((0 : Nat) : Int) ≤ 0 by decide⟩
theorem zk8 (d : Dv) (n : Int) : ((d.counts n).2.gone = false → d.gone = false ∧ (d.counts n).1 = n) := by
 unfold Dv.counts
 intro h
 split at h
 ·rename_i hg; rw [hg] at h; cases h
 ·rename_i hg
  have hg : d.gone = false := by simpa using hg
  split at h
  ·rename_i c; exact ⟨hg,by rw [if_neg (by simp [hg]),if_pos c]⟩
  ·split at h
   ·cases h
   ·rename_i c c2; exact ⟨hg,by rw [if_neg (by simp [hg]),if_neg c,if_neg c2]⟩
theorem Inv.wr1 {P : Nat} {T : Int} {d : Dv} (h : Inv P T d) {w : Int × By} (hw : 0 ≤ w.1 ∧ 128 * w.1.toNat + 128 ≤ 512 * P ∧ w.2.length = 128) : Inv P T (d.wr1 w) := by
 obtain ⟨e1,e2,e3,e4⟩ := zd1 d w
 have hpl : (d.wr1 w).seen.pg.length = 512 * P := by
  rw [e1]
  show (putP d.seen.pg w).length = _
  rw [zg8 (by rw [h.pl]; exact hw.2.1) hw.2.2,h.pl]
 have hst : (d.wr1 w).seen.st = d.seen.st ∧ (d.wr1 w).seen.base = d.seen.base := by rw [e1]; exact ⟨rfl,rfl⟩
 refine ⟨h.hP,hpl,by rw [e2]; exact h.kl,zo0 d w h.arm,?_,by rw [hst.1]; exact h.st,by rw [hst.1,hst.2]; exact h.bs,by rw [e2,e3]; exact h.ts,by rw [e2]; exact h.kb,fun hg => ?_,by rw [e2,e3]; exact h.fe⟩
 ·rcases e4 with e4 | e4
  ·rw [e4]; exact h.ws
  ·rw [e4]
   intro y hy
   rcases List.mem_append.1 hy with hy | hy
   ·exact h.ws y hy
   ·rw [List.mem_singleton.1 hy]; exact hw
 ·have key : d.gone = false ∧ (({ d with seen := d.seen.put w } : Dv).counts 1).1 = 1 := by
   refine zk8 { d with seen := d.seen.put w } 1 ?_
   unfold Dv.wr1 at hg
   split at hg <;> exact hg
  have e5 : (d.wr1 w).ws = d.ws ++ [w] := by unfold Dv.wr1; rw [if_pos key.2]
  rw [e1,e2,e3,e5,List.foldl_append]
  show List.foldl Dk.turn ((List.foldl Dk.put d.kept d.ws).put w) d.ts = _
  rw [zdl,h.sy key.1]
theorem Inv.wrF {P : Nat} {T : Int} {page : Nat} {b : By} (hp : page < P) (hb : b.length = 512) : ∀ (k i : Nat) (d : Dv),i + k = 4 → Inv P T d → Inv P T (wrF page b k i d)
 | 0,_,_,_,h => h
 | k + 1,i,d,hi,h => Inv.wrF hp hb k (i + 1) _ (by omega) (h.wr1 ⟨by omega,by show 128 * Int.toNat ((page * 4 + i : Nat) : Int) + 128 ≤ _; rw [Int.toNat_natCast]; omega,by simp; omega⟩)
theorem zte {page : Nat} {b : By} : ∀ (k i : Nat) (d : Dv),(wrF page b k i d).ws.length ≤ d.ws.length + k ∧ (wrF page b k i d).ts = d.ts ∧ (wrF page b k i d).kept = d.kept ∧ (wrF page b k i d).seen.st = d.seen.st ∧ (wrF page b k i d).seen.base = d.seen.base
 | 0,_,_ => ⟨by exact Nat.le_refl _,rfl,rfl,rfl,rfl⟩
 | k + 1,i,d => by
   obtain ⟨e1,e2,e3,e4⟩ := zd1 d (((page * 4 + i : Nat) : Int),(b.drop (i * 128)).take 128)
   obtain ⟨f1,f2,f3,f4,f5⟩ := zte k (i + 1) (d.wr1 (((page * 4 + i : Nat) : Int),(b.drop (i * 128)).take 128)) (page := page) (b := b)
   refine ⟨?_,f2.trans e3,f3.trans e2,?_,?_⟩
   ·show (Go.Pvm.S.wrF page b k (i + 1) _).ws.length ≤ _
    rcases e4 with e4 | e4
    ·rw [e4] at f1; omega
    ·rw [e4,List.length_append,List.length_singleton] at f1; omega
   ·exact f4.trans (by rw [e1]; rfl)
   ·exact f5.trans (by rw [e1]; rfl)
theorem Inv.seenSt {P : Nat} {T : Int} {d : Dv} (h : Inv P T d) (hg : d.gone = false) : (d.ts.foldl Dk.turn d.kept).st = d.seen.st ∧ (d.ts.foldl Dk.turn d.kept).base = d.seen.base := by
 have h1 := zgl d.ws d.kept
 have h2 := z2t d.ts d.kept _ h1.1.symm h1.2.symm
 rw [h.sy hg] at h2
 exact h2
theorem Inv.app {P : Nat} {T : Int} {d : Dv} (h : Inv P T d) (hT : T ≤ 1000000000) {b : By} (hb : b.length + d.seen.st.length ≤ 65536) : Inv P (T + b.length) (d.app b) := by
 have hbs := h.bs
 have hkb := h.kb
 have hok : ∀ n : Nat,okt d.seen ⟨b.take n,false,0⟩ := fun n => ⟨fun e => by (cases e),⟨h.bs.1,by omega⟩,by show _ + (b.take n).length ≤ _; rw [List.length_take]; omega⟩
 have hok' : okt d.seen ⟨b,false,0⟩ := ⟨fun e => by (cases e),⟨h.bs.1,by omega⟩,by show _ + b.length ≤ _; omega⟩
 obtain ⟨t1,t2,t3⟩ := z3n hok' hbs.2 hbs.1
 have hsame := zfe { d with seen := d.seen.turn ⟨b,false,0⟩ } (b.length : Nat)
 have harm := zoi { d with seen := d.seen.turn ⟨b,false,0⟩ } (n := (b.length : Nat)) (by omega) h.arm
 have hle := z3j { d with seen := d.seen.turn ⟨b,false,0⟩ } (n := (b.length : Nat)) (by omega)
 have hgn := zk8 { d with seen := d.seen.turn ⟨b,false,0⟩ } (b.length : Nat)
 have hgone : (({ d with seen := d.seen.turn ⟨b,false,0⟩ } : Dv).counts (b.length : Nat)).1 > 0 → d.gone = false := fun hc => by
  cases hg : d.gone with
  | false => rfl
  | true =>
    unfold Dv.counts at hc
    rw [if_pos (by exact hg)] at hc
    have hc : (0 : Int) > 0 := hc
    omega
 have happ : d.app b = if (({ d with seen := d.seen.turn ⟨b,false,0⟩ } : Dv).counts (b.length : Nat)).1 > 0 then { (({ d with seen := d.seen.turn ⟨b,false,0⟩ } : Dv).counts (b.length : Nat)).2 with ts := d.ts ++ [⟨b.take (({ d with seen := d.seen.turn ⟨b,false,0⟩ } : Dv).counts (b.length : Nat)).1.toNat,false,0⟩] } else (({ d with seen := d.seen.turn ⟨b,false,0⟩ } : Dv).counts (b.length : Nat)).2 := rfl
 rw [happ]
 generalize (({ d with seen := d.seen.turn ⟨b,false,0⟩ } : Dv).counts (b.length : Nat)) = r at hsame harm hle hgn hgone
 obtain ⟨n,d2⟩ := r
 simp only at hsame harm hle hgn hgone
 obtain ⟨s1,s2,s3,s4⟩ := hsame
 have hkb' : 0 ≤ d.kept.base ∧ d.kept.base + d.kept.st.length ≤ T + b.length ∧ d.kept.st.length ≤ 65536 := ⟨hkb.1,by omega,hkb.2.2⟩
 by_cases c : n > 0
 ·rw [if_pos c]
  have hg := hgone c
  have hss := h.seenSt hg
  refine ⟨h.hP,by show d2.seen.pg.length = _; rw [s1,zt3]; exact h.pl,by show d2.kept.pg.length = _; rw [s2]; exact h.kl,harm,by show zys P d2.ws; rw [s3]; exact h.ws,by show d2.seen.st.length ≤ _; rw [s1]; exact t3,by show 0 ≤ d2.seen.base ∧ d2.seen.base + d2.seen.st.length ≤ _; rw [s1]; exact ⟨t1,t2⟩,?_,by show 0 ≤ d2.kept.base ∧ d2.kept.base + d2.kept.st.length ≤ _ ∧ d2.kept.st.length ≤ _; rw [s2]; exact hkb',fun hg2 => ?_,?_⟩
  ·show oks d2.kept (d.ts ++ [_])
   rw [s2]
   refine z3s _ _ _ h.ts ?_
   have := hok n.toNat
   exact ⟨fun e => by (cases e),by rw [hss.2]; exact this.2.1,by rw [hss.1]; exact this.2.2⟩
  ·have hn := (hgn hg2).2
   show List.foldl Dk.turn (List.foldl Dk.put d2.kept d2.ws) (d.ts ++ [_]) = d2.seen
   rw [s1,s2,s3,List.foldl_append,h.sy hg,hn,Int.toNat_natCast,List.take_of_length_le (Nat.le_refl _)]
   rfl
  ·show (List.foldl Dk.turn d2.kept (d.ts ++ [_])).base + (List.foldl Dk.turn d2.kept (d.ts ++ [_])).st.length ≤ _
   rw [s2,List.foldl_append]
   show (List.foldl Dk.turn d.kept d.ts).base + (((List.foldl Dk.turn d.kept d.ts).st ++ b.take n.toNat).length : Nat) ≤ _
   rw [hss.1,hss.2,List.length_append,List.length_take]
   omega
 ·rw [if_neg c]
  refine ⟨h.hP,by rw [s1,zt3]; exact h.pl,by rw [s2]; exact h.kl,harm,by rw [s3]; exact h.ws,by rw [s1]; exact t3,by rw [s1]; exact ⟨t1,t2⟩,by rw [s2,s4]; exact h.ts,by rw [s2]; exact hkb',fun hg2 => ?_,by rw [s2,s4]; have := h.fe; omega⟩
  obtain ⟨hg,hn⟩ := hgn hg2
  have hb0 : b = [] := List.eq_nil_of_length_eq_zero (by omega)
  rw [s1,s2,s3,s4,h.sy hg,hb0]
  unfold Dk.turn
  simp
theorem Inv.sync {P : Nat} {T : Int} {d : Dv} (h : Inv P T d) : Inv P T d.sync := by
 unfold Dv.sync
 by_cases hg : d.gone = true
 ·rw [if_pos hg]; exact h
 ·rw [if_neg hg]
  have hg : d.gone = false := by simpa using hg
  rw [h.sy hg]
  exact ⟨h.hP,h.pl,h.pl,h.arm,fun w hw => by (cases hw),h.st,h.bs,trivial,⟨h.bs.1,h.bs.2,h.st⟩,fun _ => rfl,h.bs.2⟩
theorem z2x : ∀ (ts : List Tn) (x : Dk) (u T : Int),oks x ts → 0 ≤ x.base → x.st.length ≤ 65536 → (∀ k,k ≤ ts.length → ((ts.take k).foldl Dk.turn x).base + ((ts.take k).foldl Dk.turn x).st.length ≤ T) → 0 ≤ (z2r x ts u).base ∧ (z2r x ts u).base + (z2r x ts u).st.length ≤ T ∧ (z2r x ts u).st.length ≤ 65536
 | [],x,u,T,_,h0,hs,hT => ⟨h0,hT 0 (Nat.le_refl _),hs⟩
 | t :: ts,x,u,T,h,h0,hs,hT => by
   obtain ⟨a,b,c,e⟩ := h
   unfold z2r
   have hx := hT 0 (Nat.zero_le _)
   have hx : x.base + x.st.length ≤ T := hx
   obtain ⟨f1,f2,f3⟩ := z3n (x := x) (t := t) ⟨a,b,c⟩ hx h0
   have hx1 := hT 1 (by simp)
   have hx1 : (x.turn t).base + (x.turn t).st.length ≤ T := hx1
   split
   ·rename_i c1
    split
    ·rename_i c2
     have htr : t.trim = false := by
      cases htt : t.trim with
      | false => rfl
      | true => unfold Tn.units at c1; rw [htt] at c1; simp at c1; omega
     have e1 : x.turn t = { x with st := x.st ++ t.b } := by unfold Dk.turn; rw [htr]; rfl
     rw [e1] at hx1
     simp only [List.length_append] at hx1
     show 0 ≤ x.base ∧ x.base + (x.st ++ t.b.take u.toNat).length ≤ T ∧ (x.st ++ t.b.take u.toNat).length ≤ 65536
     simp only [List.length_append,List.length_take]
     omega
    ·exact ⟨h0,hx,hs⟩
   ·exact z2x ts _ _ T e f1 f3 fun k hk => hT (k + 1) (by simp; omega)
theorem z30 {x : Dk} {t : Tn} (h : okt x t) : x.base + x.st.length ≤ (x.turn t).base + (x.turn t).st.length := by
 unfold Dk.turn
 split
 ·rename_i ht
  have := h.1 ht
  simp only [List.length_drop]
  omega
 ·simp only [List.length_append]
  omega
theorem z20 : ∀ (ts : List Tn) (x : Dk),oks x ts → ∀ k,k ≤ ts.length → ((ts.take k).foldl Dk.turn x).base + ((ts.take k).foldl Dk.turn x).st.length ≤ (ts.foldl Dk.turn x).base + (ts.foldl Dk.turn x).st.length
 | [],_,_,k,_ => by simp
 | t :: ts,x,h,0,hk => by
   have h1 := z30 (x := x) (t := t) ⟨h.1,h.2.1,h.2.2.1⟩
   have h2 := z20 ts (x.turn t) h.2.2.2 0 (Nat.zero_le _)
   simp only [List.take_zero,List.foldl_nil] at h2
   show x.base + x.st.length ≤ (ts.foldl Dk.turn (x.turn t)).base + (ts.foldl Dk.turn (x.turn t)).st.length
   omega
 | t :: ts,x,h,k + 1,hk => z20 ts (x.turn t) h.2.2.2 k (by simpa using hk)
theorem Inv.crash {P : Nat} {T : Int} {d : Dv} (h : Inv P T d) (pat : List Bool) (n : Int) : Inv P T (d.crash pat n) := by
 obtain ⟨k1,k2,k3⟩ := z2s pat d.ws d.kept 0 h.ws h.kl
 have hok : oks (z2q pat d.kept d.ws 0) d.ts := ztj _ _ _ k2.symm k3.symm h.ts
 have hf := z2t d.ts (z2q pat d.kept d.ws 0) d.kept k2 k3
 obtain ⟨f1,f2,f3⟩ := z2x d.ts (z2q pat d.kept d.ws 0) n T hok (by rw [k3]; exact h.kb.1) (by rw [k2]; exact h.kb.2.2) fun k hk => by
  have := z20 d.ts _ hok k hk
  rw [hf.1,hf.2] at this
  have := h.fe
  omega
 have hp : (z2r (z2q pat d.kept d.ws 0) d.ts n).pg.length = 512 * P := by rw [z3b,k1]
 exact ⟨h.hP,hp,hp,⟨show (-1 : Int) ≤ -1 by decide,show (-1 : Int) ≤ 9223372036854775807 by decide⟩,fun w hw => by (cases hw),f3,⟨f1,f2⟩,trivial,⟨f1,f2,f3⟩,fun _ => rfl,f2⟩
theorem Inv.crashFit {P : Nat} {T : Int} {d : Dv} (h : Inv P T d) (n : Int) : (z2r d.kept d.ts n).st.length ≤ 1000000000 := by
 obtain ⟨f1,f2,f3⟩ := z2x d.ts d.kept n T h.ts h.kb.1 h.kb.2.2 fun k hk => by
  have := z20 d.ts _ h.ts k hk
  have := h.fe
  omega
 omega
end Go.Pvm.S
