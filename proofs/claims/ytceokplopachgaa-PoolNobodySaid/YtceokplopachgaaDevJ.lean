/- Part of the proof: what is always so of a device (plain). -/
import Derived.Test.YtceokplopachgaaDevH
set_option linter.unusedSimpArgs false
set_option linter.unusedVariables false
set_option maxRecDepth 100000
namespace Go.Pvm.S
open Go.Pvm Go.Proofs
theorem zrs (x : Dk) (w : Int × By) (t : Tn) : (x.put w).turn t = (x.turn t).put w := by
 unfold Dk.turn Dk.put
 split <;> rfl
theorem zdl : ∀ (ts : List Tn) (x : Dk) (w : Int × By),ts.foldl Dk.turn (x.put w) = (ts.foldl Dk.turn x).put w
 | [],_,_ => rfl
 | t :: ts,x,w => by rw [List.foldl_cons,zrs,zdl ts]; rfl
structure Inv (P : Nat) (T : Int) (d : Dv) : Prop where
 hP : 1 ≤ P ∧ P ≤ 1000000
 pl : d.seen.pg.length = 512 * P
 kl : d.kept.pg.length = 512 * P
 arm : -1 ≤ d.armed ∧ d.armed ≤ 9223372036854775807
 ws : zys P d.ws
 st : d.seen.st.length ≤ 65536
 bs : 0 ≤ d.seen.base ∧ d.seen.base + d.seen.st.length ≤ T
 ts : oks d.kept d.ts
 kb : 0 ≤ d.kept.base ∧ d.kept.base + d.kept.st.length ≤ T ∧ d.kept.st.length ≤ 65536
 sy : d.gone = false → d.ts.foldl Dk.turn (d.ws.foldl Dk.put d.kept) = d.seen
 fe : (d.ts.foldl Dk.turn d.kept).base + (d.ts.foldl Dk.turn d.kept).st.length ≤ T
theorem Inv.new {P : Nat} (h : 1 ≤ P ∧ P ≤ 64) : Inv P 0 (Dv.new P) := by
 have hl : (Dk.new P).pg.length = 512 * P := by simp [Dk.new]
 exact ⟨⟨h.1,by omega⟩,hl,hl,⟨show (-1 : Int) ≤ -1 by decide,show (-1 : Int) ≤ 9223372036854775807 by decide⟩,fun w hw => by (cases hw),show 0 ≤ 65536 by decide,⟨show (0 : Int) ≤ 0 by decide,show (0 : Int) + ((0 : Nat) : Int) ≤ 0 by decide⟩,trivial,⟨show (0 : Int) ≤ 0 by decide,show (0 : Int) + ((0 : Nat) : Int) ≤ 0 by decide,show 0 ≤ 65536 by decide⟩,fun _ => rfl,show (0 : Int) + ((0 : Nat) : Int) ≤ 0 by decide⟩
theorem zk8 (d : Dv) (n : Int) : ((d.counts n).2.gone = false → d.gone = false ∧ (d.counts n).1 = n) := by
 unfold Dv.counts
 intro h
 split at h
 ·rename_i hg; rw [hg] at h; cases h
 ·rename_i hg
  have hg : d.gone = false := by simpa using hg
  split at h
  ·rename_i c; exact ⟨hg,by rw [if_neg (by simp [hg]),if_pos c]⟩
  ·split at h
   ·cases h
   ·rename_i c c2; exact ⟨hg,by rw [if_neg (by simp [hg]),if_neg c,if_neg c2]⟩
theorem Inv.wr1 {P : Nat} {T : Int} {d : Dv} (h : Inv P T d) {w : Int × By} (hw : 0 ≤ w.1 ∧ 128 * w.1.toNat + 128 ≤ 512 * P ∧ w.2.length = 128) : Inv P T (d.wr1 w) := by
 obtain ⟨e1,e2,e3,e4⟩ := zd1 d w
 have hpl : (d.wr1 w).seen.pg.length = 512 * P := by
  rw [e1]
  show (putP d.seen.pg w).length = _
  rw [zg8 (by rw [h.pl]; exact hw.2.1) hw.2.2,h.pl]
 have hst : (d.wr1 w).seen.st = d.seen.st ∧ (d.wr1 w).seen.base = d.seen.base := by rw [e1]; exact ⟨rfl,rfl⟩
 refine ⟨h.hP,hpl,by rw [e2]; exact h.kl,zo0 d w h.arm,?_,by rw [hst.1]; exact h.st,by rw [hst.1,hst.2]; exact h.bs,by rw [e2,e3]; exact h.ts,by rw [e2]; exact h.kb,fun hg => ?_,by rw [e2,e3]; exact h.fe⟩
 ·rcases e4 with e4 | e4
  ·rw [e4]; exact h.ws
  ·rw [e4]
   intro y hy
   rcases List.mem_append.1 hy with hy | hy
   ·exact h.ws y hy
   ·rw [List.mem_singleton.1 hy]; exact hw
 ·have key : d.gone = false ∧ (({ d with seen := d.seen.put w } : Dv).counts 1).1 = 1 := by
   refine zk8 { d with seen := d.seen.put w } 1 ?_
   unfold Dv.wr1 at hg
   split at hg <;> exact hg
  have e5 : (d.wr1 w).ws = d.ws ++ [w] := by unfold Dv.wr1; rw [if_pos key.2]
  rw [e1,e2,e3,e5,List.foldl_append]
  show List.foldl Dk.turn ((List.foldl Dk.put d.kept d.ws).put w) d.ts = _
  rw [zdl,h.sy key.1]
theorem Inv.wrF {P : Nat} {T : Int} {page : Nat} {b : By} (hp : page < P) (hb : b.length = 512) : ∀ (k i : Nat) (d : Dv),i + k = 4 → Inv P T d → Inv P T (wrF page b k i d)
 | 0,_,_,_,h => h
 | k + 1,i,d,hi,h => Inv.wrF hp hb k (i + 1) _ (by omega) (h.wr1 ⟨by omega,by show 128 * Int.toNat ((page * 4 + i : Nat) : Int) + 128 ≤ _; rw [Int.toNat_natCast]; omega,by simp; omega⟩)
theorem zte {page : Nat} {b : By} : ∀ (k i : Nat) (d : Dv),(wrF page b k i d).ws.length ≤ d.ws.length + k ∧ (wrF page b k i d).ts = d.ts ∧ (wrF page b k i d).kept = d.kept ∧ (wrF page b k i d).seen.st = d.seen.st ∧ (wrF page b k i d).seen.base = d.seen.base
 | 0,_,_ => ⟨by exact Nat.le_refl _,rfl,rfl,rfl,rfl⟩
 | k + 1,i,d => by
   obtain ⟨e1,e2,e3,e4⟩ := zd1 d (((page * 4 + i : Nat) : Int),(b.drop (i * 128)).take 128)
   obtain ⟨f1,f2,f3,f4,f5⟩ := zte k (i + 1) (d.wr1 (((page * 4 + i : Nat) : Int),(b.drop (i * 128)).take 128)) (page := page) (b := b)
   refine ⟨?_,f2.trans e3,f3.trans e2,?_,?_⟩
   ·show (Go.Pvm.S.wrF page b k (i + 1) _).ws.length ≤ _
    rcases e4 with e4 | e4
    ·rw [e4] at f1; omega
    ·rw [e4,List.length_append,List.length_singleton] at f1; omega
   ·exact f4.trans (by rw [e1]; rfl)
   ·exact f5.trans (by rw [e1]; rfl)
theorem Inv.sync {P : Nat} {T : Int} {d : Dv} (h : Inv P T d) : Inv P T d.sync := by
 unfold Dv.sync
 by_cases hg : d.gone = true
 ·rw [if_pos hg]; exact h
 ·rw [if_neg hg]
  have hg : d.gone = false := by simpa using hg
  rw [h.sy hg]
  exact ⟨h.hP,h.pl,h.pl,h.arm,fun w hw => by (cases hw),h.st,h.bs,trivial,⟨h.bs.1,h.bs.2,h.st⟩,fun _ => rfl,h.bs.2⟩
end Go.Pvm.S
