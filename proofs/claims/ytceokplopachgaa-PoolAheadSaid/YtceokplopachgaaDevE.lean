/- Part of the proof: the device: writing a page, appending, trimming. -/
import Derived.Test.YtceokplopachgaaDevD
set_option linter.unusedSimpArgs false
set_option linter.unusedVariables false
set_option maxRecDepth 100000
namespace Go.Pvm.S
open Go.Pvm Go.Proofs
section
variable {g g' : Nat → Nat} {σ τ : Store} {id : Nat} {d : Dv} {u : PV} {b : By}
theorem DevS.retag (h : DevS g σ id d) (hg : ∀ i,i < σ.next → g' i = g i) : DevS g' σ id d := by
 obtain ⟨x,q1,q2,q3,q4⟩ := h
 exact ⟨x,q1,q2,(hg id q2).trans q3,q4.retag hg⟩
theorem Out.retag (hg : ∀ i,i < σ.next → g' i = g i) : Out g σ g' σ := ⟨Nat.le_refl _,hg,fun _ _ _ => .inl rfl⟩
theorem DevS.box (h : DevS g σ id d) (o : Obj) : DevS (tag g σ.next 7) (σ.push o) id d ∧ Out g σ (tag g σ.next 7) (σ.push o) ∧ tag g σ.next 7 σ.next = 7 := by
 have hg : ∀ i,i < σ.next → tag g σ.next 7 i = g i := fun i hi => je hi
 exact ⟨(h.retag hg).push o,(Out.retag hg).trans (Out.push _ σ o),qj (Nat.le_refl _)⟩
theorem Out.get (k : Out g σ g' τ) {i : Nat} (hi : i < σ.next) (h7 : 7 ≤ g i) {ro : Nat} {es : List (List PV)} (ho : σ.objs i = some (.cells ro es)) : ∃ ro',τ.objs i = some (.cells ro' es) := by
 rcases k.2.2 i hi h7 with e | ⟨_,ro',es',e1,e2⟩
 ·exact ⟨ro,e.trans ho⟩
 ·rw [ho] at e1; cases e1; exact ⟨_,e2⟩
theorem zkz (hu : IsS RB u b) (hb : b.length = 512) {page P : Nat} (hp : page < P) (hP : P ≤ 1000000) : ∀ (k i : Nat) (g : Nat → Nat) (σ : Store) (d : Dv),i + k = 4 → DevS g σ id d → d.seen.pg.length = 512 * P → (-1 ≤ d.armed ∧ d.armed ≤ 9223372036854775807) → d.ws.length + k ≤ 1000000 →
  ∃ g' τ,y2 cfg 65 zi3 (zif (.ref id 0 0) (page : Nat) u (i : Nat)) σ = some (.exit 1,zpy,τ) ∧ DevS g' τ id (wrF page b k i d) ∧ Out g σ g' τ
 | 0,i,g,σ,d,hi,h,hl,ha,hw => by
   have hd : decide (((i : Nat) : Int) < 4) = false := decide_eq_false (by omega)
   refine ⟨g,σ,yi ((ztl _ _ _ _ _ _ _).trans ?_),h,Out.refl _ _⟩
   simp only [hd,Bool.false_eq_true,if_false]
 | k + 1,i,g,σ,d,hi,h,hl,ha,hw => by
   have hd : decide (((i : Nat) : Int) < 4) = true := decide_eq_true (by omega)
   have w1 : IntKind.wrap .i64 (((i : Nat) : Int) * 128) = ((i * 128 : Nat) : Int) := by rw [q9 (by omega) (by omega)]; omega
   have w2 : IntKind.wrap .i64 (IntKind.wrap .i64 (((i : Nat) : Int) + 1) * 128) = (((i + 1) * 128 : Nat) : Int) := by rw [q9 (x := ((i : Nat) : Int) + 1) (by omega) (by omega),q9 (by omega) (by omega)]; omega
   have w3 : IntKind.wrap .i64 (IntKind.wrap .i64 (((page : Nat) : Int) * 4) + ((i : Nat) : Int)) = ((page * 4 + i : Nat) : Int) := by rw [q9 (x := ((page : Nat) : Int) * 4) (by omega) (by omega),q9 (by omega) (by omega)]; omega
   obtain ⟨v0,c1,c2⟩ := hu.cut TB okB (lo := some (.int .i64 ((i * 128 : Nat) : Int))) (hi := some (.int .i64 (((i + 1) * 128 : Nat) : Int))) (x8 .i64 _ 0) (x8 .i64 _ _) (by omega) (by omega)
   rw [show (i + 1) * 128 - i * 128 = 128 by omega] at c2
   obtain ⟨v1,c3,c4⟩ := zrb (c2 := zon) rfl rfl c2 (by simp; omega) σ
   have hbl : ((b.drop (i * 128)).take 128).length = 128 := by simp; omega
   obtain ⟨k1,k2,k3⟩ := h.box (.cells 0 [[.int .i64 ((page * 4 + i : Nat) : Int),v1]])
   have hbox : (σ.push (.cells 0 [[.int .i64 ((page * 4 + i : Nat) : Int),v1]])).objs σ.next = some (.cells 0 [[.int .i64 ((page * 4 + i : Nat) : Int),v1]]) := zn _ _
   obtain ⟨τ1,p1,p2,p3⟩ := zum k1 c4 hbl (at_ := page * 4 + i) (by rw [hl]; omega) (by omega)
   obtain ⟨τ2,s1,s2,s3⟩ := zrx p2 (n := 1) (by omega) ha
   have hput : zi ztw (ze cfg) 58 [.ref id 0 0,.agg [.int .i64 ((page * 4 + i : Nat) : Int),v1]] (σ.push (.cells 0 [[.int .i64 ((page * 4 + i : Nat) : Int),v1]])) = some (.tuple [],τ1) := by rw [zk rfl (by kernel_rfl)]; exact p1
   have hcnt : zi zon (ze cfg) 56 [.ref id 0 0,.int .i64 1] τ1 = some (.int .i64 (({ d with seen := d.seen.put (((page * 4 + i : Nat) : Int),(b.drop (i * 128)).take 128) } : Dv).counts 1).1,τ2) := by rw [zk rfl (by kernel_rfl)]; exact s1
   obtain ⟨ro',hbox2⟩ := (p3.trans s3).get (Nat.lt_succ_self _) (by rw [k3]; exact Nat.le_refl _) hbox
   have ev := ztl (ze cfg) (y2 cfg) σ (.ref id 0 0) (page : Nat) u (i : Nat)
   simp only [hd,if_true,w1,w2,w3,c1,c3,za,bvW _ c4.plain,stW σ _ c4.plain,zsh,(faV id).1,ldW hbox rfl,hput,hcnt,zb] at ev
   have hsame := zfe { d with seen := d.seen.put (((page * 4 + i : Nat) : Int),(b.drop (i * 128)).take 128) } 1
   have hwr := zd1 d (((page * 4 + i : Nat) : Int),(b.drop (i * 128)).take 128)
   have hlen : (d.wr1 (((page * 4 + i : Nat) : Int),(b.drop (i * 128)).take 128)).seen.pg.length = 512 * P := by
    rw [hwr.1]
    have hpl : (putP d.seen.pg (((page * 4 + i : Nat) : Int),(b.drop (i * 128)).take 128)).length = d.seen.pg.length := zg8 (by
     show 128 * Int.toNat ((page * 4 + i : Nat) : Int) + 128 ≤ _
     rw [Int.toNat_natCast]; omega) hbl
    exact hpl.trans hl
   have hwl : (d.wr1 (((page * 4 + i : Nat) : Int),(b.drop (i * 128)).take 128)).ws.length + k ≤ 1000000 := by
    rcases hwr.2.2.2 with e | e
    ·rw [e]; omega
    ·rw [e,List.length_append,List.length_singleton]; omega
   have harm := zo0 d (((page * 4 + i : Nat) : Int),(b.drop (i * 128)).take 128) ha
   by_cases hc : (({ d with seen := d.seen.put (((page * 4 + i : Nat) : Int),(b.drop (i * 128)).take 128) } : Dv).counts 1).1 = 1
   ·rw [if_pos (by rw [hc]; rfl)] at ev
    obtain ⟨v,u',τ3,τ4,a1,a2,a3,a4,a5⟩ := z08 s2 c4 (by rw [hsame.2.2.1]; show d.ws.length ≤ _; omega) (a := ((page * 4 + i : Nat) : Int))
    simp only [(faV id).2.2.1,ldW hbox2 rfl,a1,z05,a2,a3,za,y6 (show i < 4611686018427387904 by omega)] at ev
    have e1 : d.wr1 (((page * 4 + i : Nat) : Int),(b.drop (i * 128)).take 128) = { (({ d with seen := d.seen.put (((page * 4 + i : Nat) : Int),(b.drop (i * 128)).take 128) } : Dv).counts 1).2 with ws := d.ws ++ [(((page * 4 + i : Nat) : Int),(b.drop (i * 128)).take 128)] } := by
     unfold Dv.wr1; rw [if_pos hc]
    rw [hsame.2.2.1] at a4
    rw [← e1] at a4
    obtain ⟨g',τ5,r1,r2,r3⟩ := zkz hu hb hp hP k (i + 1) _ τ4 _ (by omega) a4 hlen harm hwl
    exact ⟨g',τ5,yi (ev.trans r1),r2,(((k2.trans p3).trans s3).trans a5).trans r3⟩
   ·rw [if_neg (by simpa using hc)] at ev
    simp only [y6 (show i < 4611686018427387904 by omega)] at ev
    have e1 : d.wr1 (((page * 4 + i : Nat) : Int),(b.drop (i * 128)).take 128) = (({ d with seen := d.seen.put (((page * 4 + i : Nat) : Int),(b.drop (i * 128)).take 128) } : Dv).counts 1).2 := by
     unfold Dv.wr1; rw [if_neg hc]
    rw [← e1] at s2
    obtain ⟨g',τ5,r1,r2,r3⟩ := zkz hu hb hp hP k (i + 1) _ τ2 _ (by omega) s2 hlen harm hwl
    exact ⟨g',τ5,yi (ev.trans r1),r2,((k2.trans p3).trans s3).trans r3⟩
theorem zt7 (hu : IsS RB u b) (h : DevS g σ id d) {P : Nat} (hP : P ≤ 1000000) (hl : d.seen.pg.length = 512 * P) (ha : -1 ≤ d.armed ∧ d.armed ≤ 9223372036854775807) (hw : d.ws.length + 4 ≤ 1000000) (page : Int) (hbl : b.length < 4611686018427387904) :
  ∃ g' τ,ze cfg 65 [.ref id 0 0,.int .i64 page,u] σ = some (.int .i64 (if 0 ≤ page ∧ page < P then (if b.length = 512 then 0 else 1) else 3),τ) ∧ DevS g' τ id (if 0 ≤ page ∧ page < P ∧ b.length = 512 then wrF page.toNat b 4 0 d else d) ∧ Out g σ g' τ := by
 have ev := z0k (ze cfg) (y2 cfg) σ id 0 0 page u
 by_cases c1 : page < 0
 ·rw [if_pos (decide_eq_true c1)] at ev
  rw [if_neg (by omega),if_neg (by omega)]
  exact ⟨g,σ,zf (hT _) ev,h,Out.refl _ _⟩
 rw [if_neg (by simpa using c1),zak rfl rfl h hl hP] at ev
 simp only [za,zb] at ev
 by_cases c2 : page ≥ ((P : Nat) : Int)
 ·rw [if_pos (decide_eq_true c2)] at ev
  rw [if_neg (by omega),if_neg (by omega)]
  exact ⟨g,σ,zf (hT _) ev,h,Out.refl _ _⟩
 rw [if_neg (by simpa using c2)] at ev
 simp only [hu.len TB,za,zb] at ev
 rw [if_pos (show 0 ≤ page ∧ page < ((P : Nat) : Int) by omega)]
 by_cases c3 : b.length = 512
 ·rw [if_neg (by rw [c3]; decide)] at ev
  rw [if_pos c3,if_pos ⟨by omega,by omega,c3⟩]
  have hpn : ((page.toNat : Nat) : Int) = page := by omega
  obtain ⟨g',τ,r1,r2,r3⟩ := zkz hu c3 (page := page.toNat) (P := P) (by omega) hP 4 0 g σ d (by omega) h hl ha hw
  rw [hpn,zp3] at r1
  rw [r1] at ev
  exact ⟨g',τ,zf (hT _) ev,r2,r3⟩
 ·have : ¬ ((b.length : Nat) : Int) = 512 := by omega
  rw [if_pos (by simpa using this)] at ev
  rw [if_neg c3,if_neg (by omega)]
  exact ⟨g,σ,zf (hT _) ev,h,Out.refl _ _⟩
end
end Go.Pvm.S
