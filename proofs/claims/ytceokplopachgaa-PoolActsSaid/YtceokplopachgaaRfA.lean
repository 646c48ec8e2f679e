/- Part of the proof: the document's device over values alone: parts, sizes, a disk behind a part, a part that is done. -/
import Derived.Test.YtceokplopachgaaPolM
import Derived.Test.YtceokplopachgaaDevMa
set_option linter.unusedSimpArgs false
set_option linter.unusedVariables false
set_option maxRecDepth 100000
namespace Go.Pvm.S
open Go.Pvm Go.Proofs
theorem z78 (i d : Nat) : xi (some (.int .i64 (i : Nat))) d = some i := by simp [xi]
theorem z9k (l : By) : (List.all (l.map cB) fun e => List.length e == 1) = true := by simp [cB]
theorem bPl (l : By) : zt 1 (l.map cB) = true := z5e l fun a => ⟨rfl,rfl⟩
def Pt.e (u : Pt) : List PV := [.int .i64 u.at_,bv u.b,.bool u.trim,.int .i64 u.to]
def Dk.e (x : Dk) : List PV := [bv x.pg,.int .i64 x.base,bv x.st]
def Rf.e (r : Rf) : List PV := [bv r.kept.pg,.int .i64 r.kept.base,bv r.kept.st,bv r.now.pg,.int .i64 r.now.base,bv r.now.st,.psl false (r.done.map Pt.e),.bool r.gone,.int .i64 r.armed]
theorem pPl (l : List Pt) : zt 4 (l.map Pt.e) = true := z5e l fun a => ⟨rfl,rfl⟩
theorem z7g (p : Pt) : jm Cω 79 [.agg p.e] = some (.int .i64 p.size) := by
 have ev := yaf Cω Lω p.at_ (p.b.map cB) p.trim p.to
 rw [han] at ev
 unfold Pt.size
 by_cases h : p.at_ < 0
 ·rw [if_pos (decide_eq_true h)] at ev
  cases ht : p.trim with
  | true =>
    rw [ht] at ev
    rw [if_neg (by rintro ⟨_,e⟩; cases e)]
    exact pc (by rw [Pt.e,ht]; exact ev) rfl
  | false =>
    rw [ht] at ev
    rw [if_pos ⟨h,rfl⟩]
    exact pc (by rw [Pt.e,ht]; exact ev) rfl
 ·rw [if_neg (by simpa using h)] at ev
  rw [if_neg (by rintro ⟨e,_⟩; exact h e)]
  exact pc ev rfl
theorem z89 (p : Pt) (n : Int) : jm Cω 80 [.agg p.e,.int .i64 n] = some (.tuple [.agg (p.first n).1.e,.bool (p.first n).2]) := by
 have ev := yae Cω Lω p.at_ (p.b.map cB) p.trim p.to n
 have hs := z7g p
 unfold Pt.e bv at hs
 rw [hs] at ev
 simp only [zb,zc,ye,xb,xc,y1,yq,zo,yl,ym,yk,zm,zx,yd,yp,xw,zy,zl,yf,yo,zr,z6,zz,yn,yz,yy,xd,xe,yw,yx,yr,yg,yv,yh,yu,yt,vn,za,ya,y9] at ev
 unfold Pt.first
 by_cases c1 : n ≥ p.size
 ·rw [if_pos (decide_eq_true c1)] at ev
  rw [if_pos c1]
  exact pc ev rfl
 rw [if_neg (by simpa using c1)] at ev
 rw [if_neg c1]
 by_cases c2 : n ≤ 0
 ·rw [if_pos (decide_eq_true c2)] at ev
  rw [if_pos (.inl c2)]
  exact pc ev rfl
 rw [if_neg (by simpa using c2)] at ev
 by_cases c3 : p.at_ ≥ 0
 ·rw [if_pos (decide_eq_true c3)] at ev
  rw [if_pos (.inr (.inl c3))]
  exact pc ev rfl
 rw [if_neg (by simpa using c3)] at ev
 by_cases c4 : p.trim = true
 ·rw [if_pos c4] at ev
  rw [if_pos (.inr (.inr c4))]
  exact pc ev rfl
 rw [if_neg c4] at ev
 rw [if_neg (by rintro (e | e | e)
                ·exact c2 e
                ·exact c3 e
                ·exact c4 e)]
 have hsz : p.size = (p.b.length : Nat) := by unfold Pt.size; rw [if_pos ⟨by omega,by simpa using c4⟩]
 have hn : n = ((n.toNat : Nat) : Int) := by omega
 have hk : xi (some (.int .i64 n)) (List.length (p.b.map cB)) = some n.toNat := by rw [hn]; exact z78 _ _
 rw [hk,za,if_pos (z9k _),if_pos ⟨hbe _,by rw [han]; omega⟩,ha8,Nat.sub_zero,← List.map_take] at ev
 exact pc ev rfl
def Fit (x : Dk) (p : Pt) : Prop := (0 ≤ p.at_ → 128 * p.at_.toNat + 128 ≤ x.pg.length ∧ p.at_ ≤ 1000000 ∧ x.pg.length ≤ 1000000000 ∧ p.b.length ≤ 1000000000) ∧
 (p.at_ < 0 → p.trim = true → x.base ≤ p.to ∧ p.to ≤ x.base + x.st.length ∧ x.st.length ≤ 1000000000) ∧
 (p.at_ < 0 → p.trim = false → x.st.length ≤ 1000000000 ∧ p.b.length ≤ 1000000000)
theorem z86 {x : Dk} {p : Pt} (h : Fit x p) : jm Cω 78 [.agg x.e,.agg p.e] = some (.agg (x.part p).e) := by
 have ev := yag Cω Lω (x.pg.map cB) x.base (x.st.map cB) p.at_ (p.b.map cB) p.trim p.to
 unfold Dk.part
 by_cases c : 0 ≤ p.at_
 ·obtain ⟨h1,h2,h3,h4⟩ := h.1 c
  have hm : p.at_ = ((p.at_.toNat : Nat) : Int) := by omega
  rw [if_pos c]
  rw [if_pos (decide_eq_true (show p.at_ ≥ 0 from c))] at ev
  have w1 : IntKind.wrap .i64 (128 * p.at_) = ((128 * p.at_.toNat : Nat) : Int) := by rw [zap (by omega) (by omega)]; omega
  have w2 : IntKind.wrap .i64 (((128 * p.at_.toNat : Nat) : Int) + 128) = ((128 * p.at_.toNat + 128 : Nat) : Int) := by rw [zap (by omega) (by omega)]; omega
  simp only [w1,w2,z78,za,z9k,if_true,han,ha8,Nat.sub_zero,List.nil_append,List.length_nil,hb4,Nat.mul_one] at ev
  have ht : List.take (x.pg.length - (128 * p.at_.toNat + 128)) (List.drop (128 * p.at_.toNat + 128) (x.pg.map cB)) = (x.pg.drop (128 * p.at_.toNat + 128)).map cB := by
   rw [hbi (by simp),List.map_drop]
  rw [ht,← List.map_take,bPl,bPl,bPl] at ev
  rw [if_pos ⟨hbe _,by omega⟩,if_neg (by decide),if_pos (by rw [han,ha7]; omega),if_neg (by decide),if_pos (by rw [han,ha7]; omega),if_pos ⟨by omega,hah _⟩,if_neg (by decide),if_pos (by rw [← List.map_append,han,han,hak,ha7,List.length_drop]; omega),← List.map_append,← List.map_append] at ev
  exact pc ev rfl
 ·rw [if_neg c]
  rw [if_neg (by simpa using c)] at ev
  unfold Dk.turn
  cases ht : p.trim with
  | true =>
    obtain ⟨h1,h2,h3⟩ := h.2.1 (by omega) ht
    rw [ht] at ev
    have w1 : IntKind.wrap .i64 (p.to - x.base) = (((p.to - x.base).toNat : Nat) : Int) := by rw [zap (by omega) (by omega)]; omega
    rw [if_pos rfl,w1,z78,za,if_pos (z9k _),han,if_pos ⟨by omega,hah _⟩,hbi (by simp),← List.map_drop] at ev
    rw [Pt.e,ht]
    exact pc ev rfl
  | false =>
    obtain ⟨h1,h2⟩ := h.2.2 (by omega) ht
    rw [ht] at ev
    rw [if_neg (by decide),bPl,bPl,if_neg (by decide),List.nil_append,han,List.length_nil,if_pos (by omega),if_neg (by decide),han,if_pos (by omega),← List.map_append] at ev
    rw [Pt.e,ht]
    exact pc ev rfl
end Go.Pvm.S
set_option linter.unusedSimpArgs false
set_option linter.unusedVariables false
set_option maxRecDepth 100000
namespace Go.Pvm.S
open Go.Pvm Go.Proofs
theorem ya7 {r : Rf} {u : Pt} (h : Fit r.now u) (hd : r.done.length ≤ 1000000) (ha : r.armed ≤ 9223372036854775807) (hs : 0 ≤ u.size) : jm Cω 57 [.agg r.e,.agg u.e] = some (.agg (r.act u).e) := by
 have ev := yan Cω Lω (r.kept.pg.map cB) r.kept.base (r.kept.st.map cB) (r.now.pg.map cB) r.now.base (r.now.st.map cB) (r.done.map Pt.e) r.gone r.armed u.at_ (u.b.map cB) u.trim u.to
 have h1 := z86 h
 have h2 := z7g u
 have h3 := fun n => z89 u n
 have hf : ∀ n,(u.first n).1.e = [.int .i64 (u.first n).1.at_,.psl false ((u.first n).1.b.map cB),.bool (u.first n).1.trim,.int .i64 (u.first n).1.to] := fun _ => rfl
 have hp : (r.now.part u).e = [.psl false ((r.now.part u).pg.map cB),.int .i64 (r.now.part u).base,.psl false ((r.now.part u).st.map cB)] := rfl
 have hu : u.e = [.int .i64 u.at_,.psl false (u.b.map cB),.bool u.trim,.int .i64 u.to] := rfl
 have hx : r.now.e = [.psl false (r.now.pg.map cB),.int .i64 r.now.base,.psl false (r.now.st.map cB)] := rfl
 rw [hu] at h1 h2 h3
 rw [hx,hp] at h1
 have hl : ∀ x : Pt,[] ++ r.done.map Pt.e ++ [[.int .i64 x.at_,.psl false (x.b.map cB),.bool x.trim,.int .i64 x.to]] = (r.done ++ [x]).map Pt.e := fun x => by rw [List.map_append]; rfl
 have c1 : ((([] : List (List PV)).length + (r.done.map Pt.e).length) * 48 ≤ 140737488355328) := by rw [han,List.length_nil]; omega
 have c2 : ∀ x : List PV,((([] ++ r.done.map Pt.e).length + [x].length) * 48 ≤ 140737488355328) := fun x => by rw [List.nil_append,han,ha9]; omega
 rw [h1] at ev
 simp only [zb,zc,ye,xb,xc,y1,yq,zo,yl,ym,yk,zm,zx,yd,yp,xw,zy,zl,yf,yo,zr,z6,zz,yn,yz,yy,xd,xe,yw,yx,yr,yg,yv,yh,yu,yt,vn,za,ya,y9] at ev
 unfold Rf.act
 cases hg : r.gone with
 | true =>
   rw [hg] at ev
   rw [if_pos rfl] at ev
   rw [if_pos rfl]
   exact pc (by rw [Rf.e,hg]; exact ev) rfl
 | false =>
   rw [hg] at ev
   rw [if_neg (by decide),h2] at ev
   rw [if_neg (by decide)]
   simp only [zb,zc,ye,xb,xc,y1,yq,zo,yl,ym,yk,zm,zx,yd,yp,xw,zy,zl,yf,yo,zr,z6,zz,yn,yz,yy,xd,xe,yw,yx,yr,yg,yv,yh,yu,yt,vn,za,ya,y9] at ev
   by_cases ca : 0 ≤ r.armed
   ·rw [if_pos (decide_eq_true (show r.armed ≥ 0 from ca))] at ev
    by_cases cb : u.size > r.armed
    ·rw [if_pos (decide_eq_true cb),h3,hf] at ev
     rw [if_pos ⟨ca,cb⟩]
     simp only [zb,zc,ye,xb,xc,y1,yq,zo,yl,ym,yk,zm,zx,yd,yp,xw,zy,zl,yf,yo,zr,z6,zz,yn,yz,yy,xd,xe,yw,yx,yr,yg,yv,yh,yu,yt,vn,za,ya,y9] at ev
     have w0 : IntKind.wrap .i64 (r.armed - r.armed) = 0 := by rw [Int.sub_self]; rfl
     cases hq : (u.first r.armed).2 with
     | true =>
       rw [hq] at ev
       rw [if_pos rfl,pPl,if_neg (by decide),if_pos c1,if_pos (c2 _),if_pos (decide_eq_true (show r.armed ≥ 0 from ca)),hl,w0] at ev
       rw [if_pos rfl]
       exact pc (by rw [Rf.e,hg]; exact ev) rfl
     | false =>
       rw [hq] at ev
       rw [if_neg (by decide),if_pos (decide_eq_true (show r.armed ≥ 0 from ca)),w0] at ev
       rw [if_neg (by decide)]
       exact pc (by rw [Rf.e,hg]; exact ev) rfl
    ·rw [if_neg (by simpa using cb),h3,hf] at ev
     rw [if_neg (fun e => cb e.2),if_pos ca]
     simp only [zb,zc,ye,xb,xc,y1,yq,zo,yl,ym,yk,zm,zx,yd,yp,xw,zy,zl,yf,yo,zr,z6,zz,yn,yz,yy,xd,xe,yw,yx,yr,yg,yv,yh,yu,yt,vn,za,ya,y9] at ev
     have w0 : IntKind.wrap .i64 (r.armed - u.size) = r.armed - u.size := zap (by omega) (by omega)
     cases hq : (u.first u.size).2 with
     | true =>
       rw [hq] at ev
       rw [if_pos rfl,pPl,if_neg (by decide),if_pos c1,if_pos (c2 _),if_pos (decide_eq_true (show r.armed ≥ 0 from ca)),hl,w0] at ev
       rw [if_pos rfl]
       exact pc (by rw [Rf.e,hg]; exact ev) rfl
     | false =>
       rw [hq] at ev
       rw [if_neg (by decide),if_pos (decide_eq_true (show r.armed ≥ 0 from ca)),w0] at ev
       rw [if_neg (by decide)]
       exact pc (by rw [Rf.e,hg]; exact ev) rfl
   ·rw [if_neg (by simpa using ca),h3,hf] at ev
    rw [if_neg (fun e => ca e.1),if_neg ca]
    simp only [zb,zc,ye,xb,xc,y1,yq,zo,yl,ym,yk,zm,zx,yd,yp,xw,zy,zl,yf,yo,zr,z6,zz,yn,yz,yy,xd,xe,yw,yx,yr,yg,yv,yh,yu,yt,vn,za,ya,y9] at ev
    cases hq : (u.first u.size).2 with
    | true =>
      rw [hq] at ev
      rw [if_pos rfl,pPl,if_neg (by decide),if_pos c1,if_pos (c2 _),if_neg (by simpa using ca),hl] at ev
      rw [if_pos rfl]
      exact pc (by rw [Rf.e,hg]; exact ev) rfl
    | false =>
      rw [hq] at ev
      rw [if_neg (by decide),if_neg (by simpa using ca)] at ev
      rw [if_neg (by decide)]
      exact pc (by rw [Rf.e,hg]; exact ev) rfl
theorem z7h (r : Rf) : jm Cω 47 [.agg r.e] = some (.agg r.now.e) := pc (yav Cω Lω (r.kept.pg.map cB) r.kept.base (r.kept.st.map cB) (r.now.pg.map cB) r.now.base (r.now.st.map cB) (r.done.map Pt.e) r.gone r.armed) rfl
theorem z7i (r : Rf) : jm Cω 30 [.agg r.e] = some (.agg r.sync.e) := by
 have ev := yax Cω Lω (r.kept.pg.map cB) r.kept.base (r.kept.st.map cB) (r.now.pg.map cB) r.now.base (r.now.st.map cB) (r.done.map Pt.e) r.gone r.armed
 unfold Rf.sync
 cases hg : r.gone with
 | true =>
   rw [hg,if_pos rfl] at ev
   rw [if_pos rfl]
   exact pc (by rw [Rf.e,hg]; exact ev) (by rw [Rf.e,hg]; rfl)
 | false =>
   rw [hg,if_neg (by decide)] at ev
   rw [if_neg (by decide)]
   exact pc (by rw [Rf.e,hg]; exact ev) rfl
theorem z7k {r : Rf} {b : By} (hd : r.done.length ≤ 1000000) (ha : r.armed ≤ 9223372036854775807) (hs : r.now.st.length ≤ 65536) (hb : b.length < 4611686018427387904) :
  jm Cω 28 [.agg r.e,bv b] = some (.tuple [.agg (if b.length + r.now.st.length ≤ 65536 then r.act ⟨-1,b,false,0⟩ else r).e,.int .i64 (if b.length + r.now.st.length ≤ 65536 then 0 else 10)]) := by
 have ev := yay Cω Lω (r.kept.pg.map cB) r.kept.base (r.kept.st.map cB) (r.now.pg.map cB) r.now.base (r.now.st.map cB) (r.done.map Pt.e) r.gone r.armed (b.map cB)
 rw [han,han,zap (by omega) (by omega)] at ev
 by_cases c : b.length + r.now.st.length ≤ 65536
 ·have hD := ya7 (r := r) (u := ⟨-1,b,false,0⟩) ⟨fun h => absurd h (show ¬ (0 : Int) ≤ -1 by decide),fun _ h => by (cases h),fun _ _ => ⟨by omega,by show b.length ≤ _; omega⟩⟩ hd ha (by unfold Pt.size; rw [if_pos ⟨show (-1 : Int) < 0 by decide,rfl⟩]; exact Int.natCast_nonneg _)
  rw [if_neg (by rw [hbw]; omega)] at ev
  rw [if_pos c,if_pos c]
  have hD' : jm Cω 57 [.agg [bv r.kept.pg,.int .i64 r.kept.base,bv r.kept.st,bv r.now.pg,.int .i64 r.now.base,bv r.now.st,.psl false (r.done.map Pt.e),.bool r.gone,.int .i64 r.armed],.agg [.int .i64 (-1),bv b,.bool false,.int .i64 0]] = _ := hD
  unfold bv at hD'
  rw [hD'] at ev
  generalize r.act ⟨-1,b,false,0⟩ = r' at ev
  unfold Rf.e bv at ev
  simp only [zb,zc,ye,xb,xc,y1,yq,zo,yl,ym,yk,zm,zx,yd,yp,xw,zy,zl,yf,yo,zr,z6,zz,yn,yz,yy,xd,xe,yw,yx,yr,yg,yv,yh,yu,yt,vn,za,ya,y9] at ev
  exact pc ev rfl
 ·rw [if_pos (by rw [hbw]; omega)] at ev
  rw [if_neg c,if_neg c]
  exact pc ev rfl
def Rf.new (P : Nat) : Rf := ⟨Dk.new P,Dk.new P,[],false,-1⟩
theorem z9r {P : Nat} (hP : P ≤ 64) : jm Cω 21 [.int .i64 (P : Nat)] = some (.agg (Rf.new P).e) := by
 have ev := ya2 Cω Lω (P : Nat)
 have w : IntKind.wrap .i64 (512 * ((P : Nat) : Int)) = ((512 * P : Nat) : Int) := by rw [zap (by omega) (by omega)]; omega
 rw [w,if_pos ⟨by omega,rfl,by omega,by omega⟩,hax] at ev
 have hz : List.replicate (512 * P) [PV.int .u8 0] = (Dk.new P).pg.map cB := by
  unfold Dk.new
  rw [List.map_replicate]
  rfl
 rw [hz] at ev
 exact pc ev rfl
end Go.Pvm.S
set_option linter.unusedSimpArgs false
set_option linter.unusedVariables false
set_option maxRecDepth 100000
namespace Go.Pvm.S
open Go.Pvm Go.Proofs
structure Rok (P n : Nat) (r : Rf) : Prop where
 hP : P ≤ 64
 pl : r.now.pg.length = 512 * P
 bs : 0 ≤ r.now.base ∧ r.now.base ≤ 1000000000
 st : r.now.st.length ≤ 65536
 dn : r.done.length ≤ n
 ar : -1 ≤ r.armed ∧ r.armed ≤ 9223372036854775807
 kl : r.kept.pg.length = 512 * P
theorem z5j (r : Rf) (u : Pt) : (r.act u).now = r.now.part u ∧ (r.act u).done.length ≤ r.done.length + 1 ∧ (r.act u).kept = r.kept := by
 unfold Rf.act
 by_cases hg : r.gone = true
 ·rw [if_pos hg]; exact ⟨rfl,hbd _,rfl⟩
 ·rw [if_neg hg]
  by_cases c : 0 ≤ r.armed ∧ u.size > r.armed
  ·rw [if_pos c]
   refine ⟨rfl,?_,rfl⟩
   show (if (u.first r.armed).2 = true then r.done ++ [(u.first r.armed).1] else r.done).length ≤ _
   split
   ·rw [hak]; exact hah _
   ·exact hbd _
  ·rw [if_neg c]
   refine ⟨rfl,?_,rfl⟩
   show (if (u.first u.size).2 = true then r.done ++ [(u.first u.size).1] else r.done).length ≤ _
   split
   ·rw [hak]; exact hah _
   ·exact hbd _
theorem z77 (r : Rf) (u : Pt) (h : -1 ≤ r.armed ∧ r.armed ≤ 9223372036854775807) (hs : 0 ≤ u.size) : -1 ≤ (r.act u).armed ∧ (r.act u).armed ≤ 9223372036854775807 := by
 unfold Rf.act
 by_cases hg : r.gone = true
 ·rw [if_pos hg]; exact h
 ·rw [if_neg hg]
  by_cases c : 0 ≤ r.armed ∧ u.size > r.armed
  ·rw [if_pos c]; exact ⟨show (-1 : Int) ≤ 0 by decide,show (0 : Int) ≤ 9223372036854775807 by decide⟩
  ·rw [if_neg c]
   show -1 ≤ (if 0 ≤ r.armed then r.armed - u.size else r.armed) ∧ (if 0 ≤ r.armed then r.armed - u.size else r.armed) ≤ _
   split
   ·rename_i h0
    have : ¬ u.size > r.armed := fun e => c ⟨h0,e⟩
    omega
   ·exact h
def rwF (page : Nat) (b : By) : Nat → Nat → Rf → Rf
 | 0,_,r => r
 | k + 1,i,r => rwF page b k (i + 1) (r.act ⟨((page * 4 + i : Nat) : Int),(b.drop (i * 128)).take 128,false,0⟩)
theorem z9w {P page : Nat} {b : By} (hp : page < P) (hb : b.length = 512)   : ∀ (k i n : Nat) (r : Rf),i + k = 4 → Rok P n r → n + 4 ≤ 1000000 + i →
  Lω 74 z6d 0 (z5z (page : Nat) (b.map cB) (i : Nat)) [.box true 63 r.e,.box true 63 [whole 2 1,.int .i64 0,whole 3 1,whole 4 1,.int .i64 0,whole 5 1,whole 6 4,.bool false,.int .i64 0],.made true 1 [],.made true 1 [],.made true 1 [],.made true 1 [],.made true 4 []] =
  some (.exit 0,mkS 44 [(3,.ref 0 0 0),(6,.ref 1 0 0)],[.box true 63 (rwF page b k i r).e,.box true 63 [whole 2 1,.int .i64 0,whole 3 1,whole 4 1,.int .i64 0,whole 5 1,whole 6 4,.bool false,.int .i64 0],.made true 1 [],.made true 1 [],.made true 1 [],.made true 1 [],.made true 4 []])
 | 0,i,n,r,h,hr,hn => by
   have : i = 4 := by omega
   subst this
   refine lw ((z7t Cω Lω (page : Nat) (b.map cB) _ (r.kept.pg.map cB) r.kept.base (r.kept.st.map cB) (r.now.pg.map cB) r.now.base (r.now.st.map cB) (r.done.map Pt.e) r.gone r.armed 0 0 false 0 [] [] [] [] []).trans ?_)
   rw [if_neg (by decide)]
   rfl
 | k + 1,i,n,r,h,hr,hn => by
   have hP := hr.hP
   have ev := z7t Cω Lω (page : Nat) (b.map cB) (i : Nat) (r.kept.pg.map cB) r.kept.base (r.kept.st.map cB) (r.now.pg.map cB) r.now.base (r.now.st.map cB) (r.done.map Pt.e) r.gone r.armed 0 0 false 0 [] [] [] [] []
   have w1 : IntKind.wrap .i64 (128 * ((i : Nat) : Int)) = ((i * 128 : Nat) : Int) := by rw [zap (by omega) (by omega)]; omega
   have w2 : IntKind.wrap .i64 (((i * 128 : Nat) : Int) + 128) = ((i * 128 + 128 : Nat) : Int) := by rw [zap (by omega) (by omega)]; omega
   have w3 : IntKind.wrap .i64 (4 * ((page : Nat) : Int)) = ((page * 4 : Nat) : Int) := by rw [zap (by omega) (by omega)]; omega
   have w4 : IntKind.wrap .i64 (((page * 4 : Nat) : Int) + ((i : Nat) : Int)) = ((page * 4 + i : Nat) : Int) := by rw [zap (by omega) (by omega)]; omega
   rw [if_pos (by rw [hbw]; omega),w1,w2,w3,w4,z78,z78,za,za,if_pos (z9k _),han,if_pos ⟨by omega,by omega⟩,show i * 128 + 128 - i * 128 = 128 by omega,← List.map_drop,← List.map_take] at ev
   have hu : Pt.size ⟨((page * 4 + i : Nat) : Int),(b.drop (i * 128)).take 128,false,0⟩ = 1 := by
    unfold Pt.size
    rw [if_neg (by rintro ⟨e,_⟩; have e : ((page * 4 + i : Nat) : Int) < 0 := e; omega)]
   have hlen : ((b.drop (i * 128)).take 128).length = 128 := by simp; omega
   have hfit : Fit r.now ⟨((page * 4 + i : Nat) : Int),(b.drop (i * 128)).take 128,false,0⟩ := ⟨fun _ => ⟨by show 128 * Int.toNat ((page * 4 + i : Nat) : Int) + 128 ≤ _; rw [hax,hr.pl]; omega,by show ((page * 4 + i : Nat) : Int) ≤ _; omega,by rw [hr.pl]; omega,by show ((b.drop (i * 128)).take 128).length ≤ _; omega⟩,fun e => by have e : ((page * 4 + i : Nat) : Int) < 0 := e; omega,fun e => by have e : ((page * 4 + i : Nat) : Int) < 0 := e; omega⟩
   have hD := ya7 (r := r) (u := ⟨((page * 4 + i : Nat) : Int),(b.drop (i * 128)).take 128,false,0⟩) hfit (by have := hr.dn; omega) hr.ar.2 (by rw [hu]; decide)
   obtain ⟨e1,e2,e3⟩ := z5j r ⟨((page * 4 + i : Nat) : Int),(b.drop (i * 128)).take 128,false,0⟩
   have e4 := z77 r ⟨((page * 4 + i : Nat) : Int),(b.drop (i * 128)).take 128,false,0⟩ hr.ar (by rw [hu]; decide)
   have hpt : (r.now.part ⟨((page * 4 + i : Nat) : Int),(b.drop (i * 128)).take 128,false,0⟩) = r.now.put (((page * 4 + i : Nat) : Int),(b.drop (i * 128)).take 128) := by
    unfold Dk.part
    rw [if_pos (by show (0 : Int) ≤ ((page * 4 + i : Nat) : Int); omega)]
   rw [hpt] at e1
   have hok : Rok P (n + 1) (r.act ⟨((page * 4 + i : Nat) : Int),(b.drop (i * 128)).take 128,false,0⟩) := by
    refine ⟨hP,?_,by rw [e1]; exact hr.bs,by rw [e1]; exact hr.st,by have := hr.dn; omega,e4,by rw [e3]; exact hr.kl⟩
    rw [e1]
    show (putP r.now.pg _).length = _
    rw [zg8 (by rw [hr.pl]; show 128 * Int.toNat ((page * 4 + i : Nat) : Int) + 128 ≤ _; rw [hax]; omega) hlen,hr.pl]
   have hD' : jm Cω 57 [.agg [bv r.kept.pg,.int .i64 r.kept.base,bv r.kept.st,bv r.now.pg,.int .i64 r.now.base,bv r.now.st,.psl false (r.done.map Pt.e),.bool r.gone,.int .i64 r.armed],.agg [.int .i64 ((page * 4 + i : Nat) : Int),bv ((b.drop (i * 128)).take 128),.bool false,.int .i64 0]] = _ := hD
   unfold bv at hD'
   rw [hD'] at ev
   unfold rwF
   have ih := z9w hp hb k (i + 1) (n + 1) _ (by omega) hok (by omega)
   generalize r.act ⟨((page * 4 + i : Nat) : Int),(b.drop (i * 128)).take 128,false,0⟩ = r' at ev ih
   have hr' : r'.e = [.psl false (r'.kept.pg.map cB),.int .i64 r'.kept.base,.psl false (r'.kept.st.map cB),.psl false (r'.now.pg.map cB),.int .i64 r'.now.base,.psl false (r'.now.st.map cB),.psl false (r'.done.map Pt.e),.bool r'.gone,.int .i64 r'.armed] := rfl
   rw [hr'] at ev
   simp only [zb,zc,ye,xb,xc,y1,yq,zo,yl,ym,yk,zm,zx,yd,yp,xw,zy,zl,yf,yo,zr,z6,zz,yn,yz,yy,xd,xe,yw,yx,yr,yg,yv,yh,yu,yt,vn,za,ya,y9] at ev
   rw [y6 (by omega)] at ev
   exact lw (ev.trans ih)
theorem z8e {P n : Nat} {r : Rf} (hr : Rok P n r) (hn : n + 4 ≤ 1000000) (page : Int) {b : By} (hb : b.length < 4611686018427387904) :
  jm Cω 74 [.agg r.e,.int .i64 page,bv b] = some (.tuple [.agg (if 0 ≤ page ∧ page < P ∧ b.length = 512 then rwF page.toNat b 4 0 r else r).e,.int .i64 (if 0 ≤ page ∧ page < P then (if b.length = 512 then 0 else 1) else 3)]) := by
 have hP := hr.hP
 have ev := yaj Cω Lω (r.kept.pg.map cB) r.kept.base (r.kept.st.map cB) (r.now.pg.map cB) r.now.base (r.now.st.map cB) (r.done.map Pt.e) r.gone r.armed page (b.map cB)
 by_cases c1 : page < 0
 ·rw [if_pos (decide_eq_true c1)] at ev
  rw [if_neg (by omega),if_neg (by omega)]
  exact pc ev rfl
 have hd : IntKind.wrap .i64 (Int.tdiv ((List.length (r.kept.pg.map cB) : Nat) : Int) 512) = ((P : Nat) : Int) := by
  rw [han,hr.kl,Int.tdiv_eq_ediv_of_nonneg (by omega),zap (by omega) (by omega)]
  omega
 rw [if_neg (by simpa using c1),hd] at ev
 by_cases c2 : page ≥ ((P : Nat) : Int)
 ·rw [if_pos (decide_eq_true c2)] at ev
  rw [if_neg (by omega),if_neg (by omega)]
  exact pc ev rfl
 rw [if_neg (by simpa using c2),han] at ev
 by_cases c3 : b.length = 512
 ·rw [if_neg (by rw [c3]; decide)] at ev
  rw [if_pos ⟨by omega,by omega,c3⟩,if_pos ⟨by omega,by omega⟩,if_pos c3]
  have hp : page = ((page.toNat : Nat) : Int) := by omega
  have lp := z9w (P := P) (page := page.toNat) (by omega) c3 4 0 n r (by omega) hr (by omega)
  rw [← hp,zp3] at lp
  have hr0 : r.e = [.psl false (r.kept.pg.map cB),.int .i64 r.kept.base,.psl false (r.kept.st.map cB),.psl false (r.now.pg.map cB),.int .i64 r.now.base,.psl false (r.now.st.map cB),.psl false (r.done.map Pt.e),.bool r.gone,.int .i64 r.armed] := rfl
  rw [hr0] at lp
  rw [lp] at ev
  generalize rwF page.toNat b 4 0 r = r' at ev
  have hr' : r'.e = [.psl false (r'.kept.pg.map cB),.int .i64 r'.kept.base,.psl false (r'.kept.st.map cB),.psl false (r'.now.pg.map cB),.int .i64 r'.now.base,.psl false (r'.now.st.map cB),.psl false (r'.done.map Pt.e),.bool r'.gone,.int .i64 r'.armed] := rfl
  rw [hr'] at ev
  have g1 : List.getD (mkS 44 [(3,PV.ref 0 0 0),(6,.ref 1 0 0)]) 3 .undef = .ref 0 0 0 := rfl
  have g2 : List.getD (mkS 44 [(3,PV.ref 0 0 0),(6,.ref 1 0 0)]) 6 .undef = .ref 1 0 0 := rfl
  simp only [zb,zc,ye,xb,xc,y1,yq,zo,yl,ym,yk,zm,zx,yd,yp,xw,zy,zl,yf,yo,zr,z6,zz,yn,yz,yy,xd,xe,yw,yx,yr,yg,yv,yh,yu,yt,vn,za,ya,y9,g1,g2,if_true] at ev
  exact pc ev rfl
 ·rw [if_pos (by rw [bne_iff_ne]; omega)] at ev
  rw [if_neg (fun e => c3 e.2.2),if_pos ⟨by omega,by omega⟩,if_neg c3]
  exact pc ev rfl
end Go.Pvm.S
set_option linter.unusedSimpArgs false
set_option linter.unusedVariables false
set_option maxRecDepth 100000
namespace Go.Pvm.S
open Go.Pvm Go.Proofs
theorem z7b (r : Rf) (hd : r.done.length ≤ 1000000) (hu : ∀ t ∈ z5t r.done,t.units ≤ 1000000000) : jm Cω 60 [.agg r.e] = some (.tuple [.int .i64 ((z6s r.done).length : Nat),.int .i64 (z6v (z5t r.done))]) := by
 have key : ∀ (k i : Nat) (a : Nat) (s : Int),i + k = r.done.length → a ≤ i → 0 ≤ s → s + z6v (z5t (r.done.drop i)) ≤ 1000000000000000 →
   Lω 60 z5q 0 (z5k (a : Nat) s (i : Nat)) [.box true 63 r.e] = some (.exit 0,mkS 33 [(4,.int .i64 ((a + (z6s (r.done.drop i)).length : Nat) : Int)),(5,.int .i64 (s + z6v (z5t (r.done.drop i))))],[]) := by
  intro k
  induction k with
  | zero =>
    intro i a s hi ha hs hb
    have ev := z7v Cω Lω (a : Nat) s (i : Nat) (r.kept.pg.map cB) r.kept.base (r.kept.st.map cB) (r.now.pg.map cB) r.now.base (r.now.st.map cB) (r.done.map Pt.e) r.gone r.armed
    rw [if_neg (by rw [hbw,han]; omega)] at ev
    rw [List.drop_eq_nil_of_le (by omega)]
    refine lw (ev.trans ?_)
    show _ = some (Ex.exit 0,mkS 33 [(4,.int .i64 ((a + 0 : Nat) : Int)),(5,.int .i64 (s + 0))],[])
    rw [Nat.add_zero,Int.add_zero]
  | succ k ih =>
    intro i a s hi ha hs hb
    have hw := haf (show i < r.done.length by omega)
    have hdr : r.done.drop i = r.done[i] :: r.done.drop (i + 1) := hbo (by omega)
    have hmem : ∀ t ∈ z5t (r.done.drop i),t.units ≤ 1000000000 := fun t ht => hu t (by
     have : r.done = r.done.take i ++ r.done.drop i := (List.take_append_drop i r.done).symm
     rw [this,z5g]
     exact List.mem_append_right _ ht)
    have ev := z7v Cω Lω (a : Nat) s (i : Nat) (r.kept.pg.map cB) r.kept.base (r.kept.st.map cB) (r.now.pg.map cB) r.now.base (r.now.st.map cB) (r.done.map Pt.e) r.gone r.armed
    rw [if_pos (by rw [hbw,han]; omega),if_pos (by omega),hax,zw2 hw,za] at ev
    rw [hdr] at hb hmem ⊢
    generalize r.done[i] = u at ev hb hmem
    have hue : u.e = [.int .i64 u.at_,.psl false (u.b.map cB),.bool u.trim,.int .i64 u.to] := rfl
    rw [hue,yn,xd,yz,yn,yl] at ev
    rw [z5a,z43]
    rw [z43] at hb hmem
    by_cases c : 0 ≤ u.at_
    ·rw [if_pos c] at hb ⊢
     rw [if_pos c]
     rw [if_pos (decide_eq_true (show u.at_ ≥ 0 from c)),y6 (by omega),y6 (by omega)] at ev
     refine lw (ev.trans ((ih (i + 1) (a + 1) s (by omega) (by omega) hs hb).trans ?_))
     rw [List.length_cons,show a + 1 + (z6s (r.done.drop (i + 1))).length = a + ((z6s (r.done.drop (i + 1))).length + 1) by omega]
    ·rw [if_neg c] at hb hmem ⊢
     rw [if_neg c]
     have hsz := z7c c
     have hS := z7g u
     rw [hue] at hS
     have hub := hmem _ (.head _)
     have hun := z5x ⟨u.b,u.trim,u.to⟩
     have hsn := z6u (z5t (r.done.drop (i + 1)))
     have hb : s + (Tn.units ⟨u.b,u.trim,u.to⟩ + z6v (z5t (r.done.drop (i + 1)))) ≤ 1000000000000000 := hb
     rw [if_neg (by simpa using c),za,yn,xd,yz,yn,yl,hS,za,zb,hsz,zap (by omega) (by omega),y6 (by omega)] at ev
     refine lw (ev.trans ((ih (i + 1) a (s + Tn.units ⟨u.b,u.trim,u.to⟩) (by omega) (by omega) (by omega) (by omega)).trans ?_))
     rw [Int.add_assoc]
     rfl
 have ev := yam Cω Lω (r.kept.pg.map cB) r.kept.base (r.kept.st.map cB) (r.now.pg.map cB) r.now.base (r.now.st.map cB) (r.done.map Pt.e) r.gone r.armed
 have htl : ∀ l : List Pt,(z5t l).length ≤ l.length := by
  intro l
  induction l with
  | nil => exact hah _
  | cons u l ih =>
    rw [z43]
    split
    ·exact Nat.le_succ_of_le ih
    ·exact Nat.succ_le_succ ih
 have hsu := z7f hu
 have h9 := htl r.done
 have lp := key r.done.length 0 0 0 (by omega) (hah _) (Int.le_refl _) (by rw [ha8]; omega)
 rw [ha8,zp3,hb4,Int.zero_add] at lp
 have hr0 : r.e = [.psl false (r.kept.pg.map cB),.int .i64 r.kept.base,.psl false (r.kept.st.map cB),.psl false (r.now.pg.map cB),.int .i64 r.now.base,.psl false (r.now.st.map cB),.psl false (r.done.map Pt.e),.bool r.gone,.int .i64 r.armed] := rfl
 rw [hr0] at lp
 rw [lp] at ev
 have g1 : ∀ a b : PV,List.getD (mkS 33 [(4,a),(5,b)]) 4 .undef = a := fun _ _ => rfl
 have g2 : ∀ a b : PV,List.getD (mkS 33 [(4,a),(5,b)]) 5 .undef = b := fun _ _ => rfl
 simp only [zb,zc,ye,xb,xc,y1,yq,zo,yl,ym,yk,zm,zx,yd,yp,xw,zy,zl,yf,yo,zr,z6,zz,yn,yz,yy,xd,xe,yw,yx,yr,yg,yv,yh,yu,yt,vn,za,ya,y9,g1,g2,if_true] at ev
 exact pc ev rfl
end Go.Pvm.S
