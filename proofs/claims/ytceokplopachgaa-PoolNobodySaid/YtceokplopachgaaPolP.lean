/- Part of the proof: the law's own pool awakes. -/
import Derived.Test.YtceokplopachgaaPolO
set_option linter.unusedSimpArgs false
set_option linter.unusedVariables false
set_option maxRecDepth 100000
namespace Go.Pvm.S
open Go.Pvm Go.Proofs
theorem zyq (e : PV) : xl Try.prog 5 [e] 0 = some e := by kernel_rfl
theorem z0f {σ : Store} {v : PV} {l : By} (h : QS RB σ 1 v l) {i : Nat} (hi : i < l.length) : ∃ r,zh Try.prog 33 v (.int .i64 (i : Nat)) = some r ∧ zd Try.prog σ 5 r = some (.int .u8 (((l.getD i 0).toNat : Nat) : Int)) := by
 have hw := List.getElem?_eq_getElem hi
 obtain ⟨r,e,h1,_,h2,rfl⟩ := h.idx TB okB hw .i64
 have hg : l.getD i 0 = l[i] := by rw [List.getD_eq_getElem?_getD,hw]; rfl
 exact ⟨r,h1,by rw [h2,hg]; exact zyq _⟩
theorem zp2 (i j k : Nat) : j9 Try.prog .neq 27 (.ref i j k) .nilptr = some (.bool true) ∧ j9 Try.prog .eql 27 (.ref i j k) .nilptr = some (.bool false) := ⟨by kernel_rfl,by kernel_rfl⟩
theorem zz0 (σ : Store) (c : UInt8) : xt Try.prog σ 33 1 [(0,.int .u8 ((c.toNat : Nat) : Int))] = some (.lsl σ.next 1 0 1 (some 1),σ.push (.cells 0 [[.int .u8 ((c.toNat : Nat) : Int)]])) := by kernel_rfl
theorem zr7 {P n : Nat} {T : Int} {p : Po} (h : PoA P n T p) (hP : P ≤ 64) {k : Int} (hk : 0 ≤ k ∧ k < P) (b : By) (place : Int) : ∃ x,(k,x) ∈ (p.putP k b place).m := by
 obtain ⟨h1,_,x,hx⟩ := h.letP hP hk
 obtain ⟨i,hi⟩ := List.mem_iff_getElem?.1 hx
 have hl : i < (p.letP k).m.length := by
  rw [List.getElem?_eq_some_iff] at hi
  exact hi.1
 have hg : ((p.letP k).m[i]).1 = k := by rw [List.getElem?_eq_some_iff] at hi; rw [hi.2]
 have hp := zcz h1.k.nd hl hg
 unfold Po.putP
 rw [hp]
 refine ⟨⟨b,true,place⟩,?_⟩
 exact List.mem_of_getElem? (i := i) (by rw [List.getElem?_set_self hl])
section
variable {P n w t : Nat} {T : Int} {did pid mid : Nat} {g g' : Nat → Nat} {σ τ : Store} {p : Po} {u : PV} {b : By}
theorem St.out (h : St P n w t T did pid mid g σ p) (hd : DevS g' τ did p.d) (k : Out g σ g' τ) : St P n w t T did pid mid g' τ p := by
 obtain ⟨vs,ids,r⟩ := h.r
 exact ⟨hd,⟨vs,ids,r.out k p.d⟩,h.a,h.l⟩
theorem St.readD (h : St P n w t T did pid mid g σ p) {i : Nat} (hi : i < P) :
  ∃ g' τ u,ze cfg 35 [.ref did 0 0,.int .i64 (i : Nat)] σ = some (.tuple [u,.int .i64 0],τ) ∧ QS RB τ 1 u (za9 p.d (i : Nat)) ∧ (∀ i ∈ tops u,7 ≤ g' i) ∧ St P n w t T did pid mid g' τ p ∧ Out g σ g' τ := by
 obtain ⟨g',τ,u,h1,h2,h3,h4,h5⟩ := zwa h.d h.a.k.iv.hP.2 h.a.k.iv.pl hi
 exact ⟨g',τ,u,h1,h2,h3,h.out h4 h5,h5⟩
theorem zuo (h : St P n w t T did pid mid g σ p) (o : Obj) : St P n w t T did pid mid (tag g σ.next 7) ((σ.push o).put σ.next o) p ∧ OutP g σ (tag g σ.next 7) ((σ.push o).put σ.next o) := by
 obtain ⟨h1,h2⟩ := h.box o 7
 refine ⟨h1.put (.inl (qj (Nat.le_refl _)).symm) _,Nat.le_succ _,fun i hi => je hi,fun i hi _ => .inl ((yb (Nat.ne_of_lt hi)).trans (yj hi))⟩
end
theorem zwy {P : Nat} {m : Int} (hP : 1 ≤ P ∧ P ≤ 64) (hm : 1 ≤ m ∧ m ≤ 64) (g : Nat → Nat) (σ : Store) : ∃ g' τ did pid mid τ',ze cfg 8 [.int .i64 (P : Nat)] σ = some (.tuple [.ref did 0 0,.int .i64 0],τ') ∧ ze cfg 9 [.ref did 0 0,.int .i64 m] τ' = some (.tuple [.ref pid 0 0,.int .i64 0],τ) ∧ St P m.toNat 0 0 0 did pid mid g' τ (Po.new (Dv.new P) m) ∧ OutP g σ g' τ := by
 obtain ⟨g1,τ1,a1,a2,a3⟩ := zyj hP g σ
 have iv := Inv.new hP
 obtain ⟨g2,τ2,pid,mid,b1,b2,b3,b4⟩ := zwd a2 iv.hP iv.pl (by show ([] : By).length ≤ _; exact Nat.zero_le _) hm
 exact ⟨g2,τ2,_,pid,mid,τ1,a1,b1,⟨b2,b3,PoA.new iv hm,⟨Nat.le_refl _,Nat.le_refl _⟩⟩,a3.toP.trans b4⟩
theorem zuh (g : Nat → Nat) (σ : Store) : ∃ τ,ze cfg 11 [] σ = some (.bool true,τ) := by
 have ev := z00 (ze cfg) (y2 cfg) σ
 obtain ⟨g1,τ1,did,pid,mid,τ0,a1,a2,a3,_⟩ := zwy (P := 2) (m := 1) (by omega) (by omega) g σ
 have c1 : zi cfg (ze cfg) 8 [.int .i64 2] σ = some (.tuple [.ref did 0 0,.int .i64 0],τ0) := by rw [zk rfl (by kernel_rfl)]; exact a1
 have c2 : zi cfg (ze cfg) 9 [.ref did 0 0,.int .i64 1] τ0 = some (.tuple [.ref pid 0 0,.int .i64 0],τ1) := by rw [zk rfl (by kernel_rfl)]; exact a2
 obtain ⟨u1,p1,p2⟩ := zq9 (c2 := cfg) rfl rfl rfl (b := [7]) (by decide) τ1
 obtain ⟨s1,_⟩ := zuo a3 (.cells 0 [[.int .u8 7]])
 obtain ⟨g2,τ2,d1,d2,_⟩ := ((a3.box (.cells 0 [[.int .u8 7]]) 7).1.put (i := τ1.next) (.inl (qj (Nat.le_refl _)).symm) (.cells 1 [[.int .u8 7]])).putP (by omega) (by omega) (by omega) (by omega) 0 p2 (by rw [jw]; decide) 0
 rw [if_pos (by omega),if_pos (jw _)] at d1
 rw [if_pos ⟨by omega,by omega,jw _⟩] at d2
 have c3 : zi cfg (ze cfg) 12 [.ref pid 0 0,.int .i64 0,u1,.int .i64 0] ((τ1.push (.cells 0 [[.int .u8 7]])).put τ1.next (.cells 1 [[.int .u8 7]])) = some (.int .i64 0,τ2) := by rw [zk rfl (by kernel_rfl)]; exact d1
 obtain ⟨u2,q1,q2⟩ := zq9 (c2 := cfg) rfl rfl rfl (b := [8]) (by decide) τ2
 obtain ⟨g3,τ3,e1,e2,_⟩ := ((d2.box (.cells 0 [[.int .u8 8]]) 7).1.put (i := τ2.next) (.inl (qj (Nat.le_refl _)).symm) (.cells 1 [[.int .u8 8]])).putP (by omega) (by omega) (by omega) (by omega) 1 q2 (by rw [jw]; decide) 0
 rw [if_pos (by omega),if_pos (jw _)] at e1
 rw [if_pos ⟨by omega,by omega,jw _⟩] at e2
 have c4 : zi cfg (ze cfg) 12 [.ref pid 0 0,.int .i64 1,u2,.int .i64 0] ((τ2.push (.cells 0 [[.int .u8 8]])).put τ2.next (.cells 1 [[.int .u8 8]])) = some (.int .i64 0,τ3) := by rw [zk rfl (by kernel_rfl)]; exact e1
 -- what the device has of page 0
 have hval : za9 (((Po.new (Dv.new 2) 1).putP 0 (pgB [7]) 0).putP 1 (pgB [8]) 0).d 0 = pgB [7] := by
  have v1 := (a3.a.put (by omega) (k := 0) (by omega) (jw [7]) 0).2 0 (by omega) (by omega)
  have v2 := (d2.a.put (by omega) (k := 1) (by omega) (jw [8]) 0).2 0 (by omega) (by omega)
  rw [if_pos rfl] at v1
  rw [if_neg (by decide),v1] at v2
  obtain ⟨x,hx⟩ := zr7 d2.a (by omega) (k := 1) (by omega) (pgB [8]) 0
  have hf := e2.a.few
  have hno : ∀ e ∈ (((Po.new (Dv.new 2) 1).putP 0 (pgB [7]) 0).putP 1 (pgB [8]) 0).m,e.1 ≠ 0 := by
   revert hx hf
   generalize (((Po.new (Dv.new 2) 1).putP 0 (pgB [7]) 0).putP 1 (pgB [8]) 0).m = m
   intro hx hf
   match m,hx,hf with
   | [y],hx,_ =>
     rw [List.mem_singleton] at hx
     intro e he
     rw [List.mem_singleton.1 he,← hx]
     show (1 : Int) ≠ 0
     decide
   | _ :: _ :: m,_,hf => exact absurd hf (by show ¬ (m.length + 1 + 1 ≤ (1 : Int).toNat); rw [show (1 : Int).toNat = 1 from rfl]; omega)
  rw [zdc hno] at v2
  exact v2
 obtain ⟨g4,τ4,u3,f1,f2,f3,f4,_⟩ := e2.readD (i := 0) (by omega)
 rw [show ((0 : Nat) : Int) = 0 from rfl,hval] at f2
 have c5 : zi cfg (ze cfg) 35 [.ref did 0 0,.int .i64 0] τ3 = some (.tuple [u3,.int .i64 0],τ4) := by rw [zk rfl (by kernel_rfl)]; exact f1
 obtain ⟨r,h1,h2⟩ := z0f f2 (i := 0) (by rw [jw]; decide)
 have h1 : zh Try.prog 33 u3 (.int .i64 0) = some r := h1
 have h7 : ((((pgB [7]).getD 0 0).toNat : Nat) : Int) = 7 := by
  rw [List.getD_eq_getElem?_getD,zkl [7] (i := 0) (by decide)]
  rfl
 rw [h7] at h2
 have hl := f2.len TB
 rw [jw] at hl
 have b7 := zz0 τ1 7
 have b8 := zz0 τ2 8
 have b7 : xt Try.prog τ1 33 1 [(0,.int .u8 7)] = some (.lsl τ1.next 1 0 1 (some 1),τ1.push (.cells 0 [[.int .u8 7]])) := b7
 have b8 : xt Try.prog τ2 33 1 [(0,.int .u8 8)] = some (.lsl τ2.next 1 0 1 (some 1),τ2.push (.cells 0 [[.int .u8 8]])) := b8
 have p1 : zi cfg (ze cfg) 13 [.lsl τ1.next 1 0 1 (some 1)] (τ1.push (.cells 0 [[.int .u8 7]])) = some (u1,(τ1.push (.cells 0 [[.int .u8 7]])).put τ1.next (.cells 1 [[.int .u8 7]])) := p1
 have q1 : zi cfg (ze cfg) 13 [.lsl τ2.next 1 0 1 (some 1)] (τ2.push (.cells 0 [[.int .u8 8]])) = some (u2,(τ2.push (.cells 0 [[.int .u8 8]])).put τ2.next (.cells 1 [[.int .u8 8]])) := q1
 rw [c1,za,uo,za,un,za,zb,c2,za,uo,za,un,za,zb,if_neg (by decide),(zp2 _ _ _).2,za,zc,if_neg (by decide),b7,za,p1,za,c3,za,zb,b8,za,q1,za,c4,za,zb,c5,za,uo,za,un,za,zb,if_pos (by decide),if_pos (by decide),hl,za,zb,if_pos (by decide),h1,za,h2,za,zb] at ev
 exact ⟨_,zf (hT _) ev⟩
theorem zrc {c2 : Cfg} (hm : c2.mode 11 = .pure) (hP : c2.P = Try.prog) (σ : Store) : zi c2 (ze cfg) 11 [] σ = some (.bool true,σ) := by
 obtain ⟨τ,h⟩ := zuh (fun _ => 7) .empty
 exact w8 hm (by rw [hP]; kernel_rfl) (args' := []) rfl (by unfold zfv; rw [h]; rfl) (.inl rfl)
end Go.Pvm.S
