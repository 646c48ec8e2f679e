/- Part of the proof: clocks: new ones (slices.Repeat of one). -/
import Derived.Test.YtceokplopachgaaPcA
set_option linter.unusedSimpArgs false
set_option linter.unusedVariables false
set_option maxRecDepth 100000
namespace Go.Pvm.S
open Go.Pvm Go.Proofs
noncomputable def zr1 : Code → List Code
 | .seq a b => zr1 a ++ zr1 b
 | c => [c]
noncomputable def qh {β : Type} (c : Cfg) (kc : KCfg) (C : xj) (L : ju) (f : FuncId) (n0 : Nat) : List Code → List PV → List KO → (Ex → List PV → List KO → Option β) → Option β
 | [],e,A,k => k .normal e A
 | x :: r,e,A,k => y3 c kc C L f n0 x e A fun x e s => match x with
   | .normal => qh c kc C L f n0 r e s k
   | x => k x e s
section
variable {β : Type} {c : Cfg} {kc : KCfg} {C : xj} {L : ju} {f : FuncId} {n0 : Nat}
theorem zag : ∀ (a b : List Code) (e : List PV) (A : List KO) (k : Ex → List PV → List KO → Option β),qh c kc C L f n0 (a ++ b) e A k = qh c kc C L f n0 a e A fun x e s => match x with
  | .normal => qh c kc C L f n0 b e s k
  | x => k x e s
 | [],_,_,_,_ => rfl
 | x :: a,b,e,A,k => by
   simp only [List.cons_append,qh]
   congr 1
   funext x e s
   cases x with
   | normal => exact zag a b e s k
   | exit i => rfl
   | ret => rfl
theorem zby : ∀ (cd : Code) (e : List PV) (A : List KO) (k : Ex → List PV → List KO → Option β),y3 c kc C L f n0 cd e A k = qh c kc C L f n0 (zr1 cd) e A k
 | .seq a b,e,A,k => by
   show y3 c kc C L f n0 a e A _ = qh c kc C L f n0 (zr1 a ++ zr1 b) e A k
   rw [zag,zby a]
   congr 1
   funext x e s
   cases x with
   | normal => exact zby b e s k
   | exit i => rfl
   | ret => rfl
 | .skip,e,A,k | .label _,e,A,k | .exit _,e,A,k | .ret,e,A,k => by
   simp only [zr1,qh]
   simp only [y3]
 | .region ..,e,A,k | .cond ..,e,A,k | .block ..,e,A,k | .loop ..,e,A,k | .rangeFunc ..,e,A,k | .scope ..,e,A,k | .goto ..,e,A,k | .refuse ..,e,A,k => by
   show _ = y3 c kc C L f n0 _ e A _
   congr 1
   funext x e s
   cases x <;> rfl
end
noncomputable def zmz : Code := ((Try.prog.funcs[63]?).bind (·.body)).getD .skip
noncomputable def zy3 : List Code := (zr1 zmz).take 4
noncomputable def zx7 : List Code := (zr1 zmz).drop 4
noncomputable def zxs : Func := (Try.prog.funcs[63]?).getD default
theorem zv6 (a : List (List PV)) (n : Int) : jf cfg za5 Cω Lω 63 [.psl false a,.int .i64 n] [] = qh cfg za5 Cω Lω 63 0 (zy3 ++ zx7) (mkS 48 [(0,.psl false a),(1,.int .i64 n)]) [] (znn Try.prog [] zxs 0) := by
 have e : zy3 ++ zx7 = zr1 zmz := List.take_append_drop _ _
 rw [e,← zby]
 have h : jf cfg za5 Cω Lω 63 [.psl false a,.int .i64 n] [] = y3 cfg za5 Cω Lω 63 0 zmz (mkS 48 [(0,.psl false a),(1,.int .i64 n)]) [] (znn Try.prog [] zxs 0) := by kernel_rfl
 exact h
theorem zu6 (a : List (List PV)) (n : Int) (k : Ex → List PV → List KO → Option (PV × List KO)) : qh cfg za5 Cω Lω 63 0 zy3 (mkS 48 [(0,.psl false a),(1,.int .i64 n)]) [] k = if (decide (n < 0)) = true then none else (jm Cω 81 [(.int .u64 (IntKind.wrap .u64 ((List.length a : Nat) : Int))),(.int .u64 (IntKind.wrap .u64 n))]).bind fun v196 => zlj v196 fun c197 => jg c197 fun v198 r198 => asInt .u64 v198 fun n199 => jg r198 fun v200 r200 => asInt .u64 v200 fun n201 => qz r200 (k .normal (mkS 48 [(0,.psl false a),(1,.int .i64 n),(4,.nilsl),(9,.int .i64 n),(10,.bool false),(13,.psl false a),(14,.int .i64 ((List.length a : Nat) : Int)),(15,.int .u64 (IntKind.wrap .u64 ((List.length a : Nat) : Int))),(16,.int .i64 n),(17,.int .u64 (IntKind.wrap .u64 n)),(18,.tuple [.int .u64 n199,.int .u64 n201]),(12,.tuple [.int .u64 n199,.int .u64 n201]),(19,.int .u64 n199),(20,.int .u64 n201),(5,.int .u64 n199),(6,.int .u64 n201)]) []) := by kernel_rfl
theorem zt5 (a : List (List PV)) (n n201 : Int) : qh cfg za5 Cω Lω 63 0 zx7 (mkS 48 [(0,.psl false a),(1,.int .i64 n),(4,.nilsl),(9,.int .i64 n),(10,.bool false),(13,.psl false a),(14,.int .i64 ((List.length a : Nat) : Int)),(15,.int .u64 (IntKind.wrap .u64 ((List.length a : Nat) : Int))),(16,.int .i64 n),(17,.int .u64 (IntKind.wrap .u64 n)),(18,.tuple [.int .u64 0,.int .u64 n201]),(12,.tuple [.int .u64 0,.int .u64 n201]),(19,.int .u64 0),(20,.int .u64 n201),(5,.int .u64 0),(6,.int .u64 n201)]) [] (znn Try.prog [] zxs 0) = (if (decide (n201 > 9223372036854775807)) = true then (none) else (if (0 ≤ (IntKind.wrap .i64 n201) ∧ (IntKind.wrap .i64 n201) = (IntKind.wrap .i64 n201) ∧ ((16 : Nat) : Int) * (IntKind.wrap .i64 n201) ≤ 140737488355328 ∧ (IntKind.wrap .i64 n201) ≤ 9223372036854775807) then (if zt 3 a = false then none else ((Lω 63 zhk 0 (zgx ((Nat.min (List.length a) (List.length (List.replicate (Int.toNat (IntKind.wrap .i64 n201)) ([(.int .i64 0),(.bool false),(.bool false)] : List PV))) : Nat) : Int)) [(.made true 3 (List.take 0 (List.replicate (Int.toNat (IntKind.wrap .i64 n201)) ([(.int .i64 0),(.bool false),(.bool false)] : List PV)) ++ List.take (List.length (List.replicate (Int.toNat (IntKind.wrap .i64 n201)) ([(.int .i64 0),(.bool false),(.bool false)] : List PV))) a ++ List.drop (0 + List.length (List.take (List.length (List.replicate (Int.toNat (IntKind.wrap .i64 n201)) ([(.int .i64 0),(.bool false),(.bool false)] : List PV))) a)) (List.replicate (Int.toNat (IntKind.wrap .i64 n201)) ([(.int .i64 0),(.bool false),(.bool false)] : List PV))))]).bind fun x204 => zgf x204.1 (fun i204 => zam 0 3 (List.getD x204.2.1 7 .undef) (zan x204.2.2 fun o205 r205 => zcu true 3 o205 fun l206 => qp r205 (if i204 = 0 then (some ((whole 0 3),[(.made true 3 l206)])) else (none)))) (none))) else none)) := by kernel_rfl
def zux (n : Nat) : Int := IntKind.wrap .u64 ((IntKind.wrap .u64 ((IntKind.wrap .u64 ((Int.fdiv 1 (2 ^ (min (Int.toNat 32) (IntKind.bits .u64)))) * (Int.fdiv (n : Int) (2 ^ (min (Int.toNat 32) (IntKind.bits .u64)))))) + (Int.fdiv (IntKind.wrap .u64 ((IntKind.wrap .u64 ((Int.fdiv 1 (2 ^ (min (Int.toNat 32) (IntKind.bits .u64)))) * (IntKind.wrap .u64 ((BitVec.ofInt (IntKind.bits .u64) (n : Int) &&& BitVec.ofInt (IntKind.bits .u64) 4294967295).toNat : Int)))) + (Int.fdiv (IntKind.wrap .u64 ((IntKind.wrap .u64 ((BitVec.ofInt (IntKind.bits .u64) 1 &&& BitVec.ofInt (IntKind.bits .u64) 4294967295).toNat : Int)) * (IntKind.wrap .u64 ((BitVec.ofInt (IntKind.bits .u64) (n : Int) &&& BitVec.ofInt (IntKind.bits .u64) 4294967295).toNat : Int)))) (2 ^ (min (Int.toNat 32) (IntKind.bits .u64)))))) (2 ^ (min (Int.toNat 32) (IntKind.bits .u64)))))) + (Int.fdiv (IntKind.wrap .u64 ((IntKind.wrap .u64 ((BitVec.ofInt (IntKind.bits .u64) (IntKind.wrap .u64 ((IntKind.wrap .u64 ((Int.fdiv 1 (2 ^ (min (Int.toNat 32) (IntKind.bits .u64)))) * (IntKind.wrap .u64 ((BitVec.ofInt (IntKind.bits .u64) (n : Int) &&& BitVec.ofInt (IntKind.bits .u64) 4294967295).toNat : Int)))) + (Int.fdiv (IntKind.wrap .u64 ((IntKind.wrap .u64 ((BitVec.ofInt (IntKind.bits .u64) 1 &&& BitVec.ofInt (IntKind.bits .u64) 4294967295).toNat : Int)) * (IntKind.wrap .u64 ((BitVec.ofInt (IntKind.bits .u64) (n : Int) &&& BitVec.ofInt (IntKind.bits .u64) 4294967295).toNat : Int)))) (2 ^ (min (Int.toNat 32) (IntKind.bits .u64)))))) &&& BitVec.ofInt (IntKind.bits .u64) 4294967295).toNat : Int)) + (IntKind.wrap .u64 ((IntKind.wrap .u64 ((BitVec.ofInt (IntKind.bits .u64) 1 &&& BitVec.ofInt (IntKind.bits .u64) 4294967295).toNat : Int)) * (Int.fdiv (n : Int) (2 ^ (min (Int.toNat 32) (IntKind.bits .u64)))))))) (2 ^ (min (Int.toNat 32) (IntKind.bits .u64)))))
theorem zuw : ∀ n : Fin 65,zux n.1 = 0 := by decide +kernel
theorem zp5 : ∀ n : Fin 65,IntKind.wrap .u64 (1 * ((n.1 : Nat) : Int)) = ((n.1 : Nat) : Int) ∧ IntKind.wrap .u64 ((n.1 : Nat) : Int) = ((n.1 : Nat) : Int) := by decide +kernel
theorem zyk {n : Nat} (h : n ≤ 64) : jm Cω 81 [.int .u64 1,.int .u64 (n : Nat)] = some (.tuple [.int .u64 0,.int .u64 (n : Nat)]) := by
 have hb : jm Cω 90 [.int .u64 1,.int .u64 (n : Nat)] = some (.tuple [.int .u64 0,.int .u64 (n : Nat)]) := by
  have ev := zy8 Cω Lω 1 (n : Nat)
  refine pc ev ?_
  have h1 : zux n = 0 := zuw ⟨n,by omega⟩
  have h2 := (zp5 ⟨n,by omega⟩).1
  show PV.tuple [.int .u64 (zux n),.int .u64 (IntKind.wrap .u64 (1 * (n : Int)))] = _
  rw [h1]
  simp only at h2
  rw [h2]
 have ev := zzb Cω Lω 1 (n : Nat)
 simp only [hb,zb,zc,ye,xb,xc,y1,yq,zo,yl,ym,yk,zm,zx,yd,yp,xw,zy,zl,yf,yo,zr,z6,zz,yn,yz,yy,xd,xe,yw,yx,yr,yg,yv,yh,yu,yt,vn,za,ya,y9] at ev
 exact pc ev rfl
theorem zw7 {e z : List PV} (he : e.length = 3 ∧ e.all PV.plain = true) (n : Nat) (hn : n < 4611686018427387904) : ∀ (m k : Nat),n - k ≤ m → 1 ≤ k → k ≤ n → Lω 63 zhk 0 (zgx (k : Nat)) [.made true 3 (List.replicate k e ++ List.replicate (n - k) z)] = some (.exit 0,mkS 48 [(7,whole 0 3)],[.made true 3 (List.replicate n e)])
 | m,k,hm,h1,h2 => by
   have hlen : (List.replicate k e ++ List.replicate (n - k) z).length = n := by simp; omega
   refine lw ?_
   rw [zuz,hlen]
   by_cases hk : k < n
   ·have ht : (List.replicate k e ++ List.replicate (n - k) z).take k = List.replicate k e := by
     rw [List.take_append_of_le_length (by simp),hbi (by simp)]
    have hrow : zt 3 (List.replicate k e) = true := by
     unfold zt
     rw [har]
     intro x hx
     rw [List.eq_of_mem_replicate hx,he.2]
     simp [he.1]
    rw [if_pos (by simp; omega),x8,za,if_pos ⟨by omega,hah _⟩,x8,za,if_pos ⟨hbe _,by omega⟩,ha8,Nat.sub_zero,ht,if_neg (by rw [hrow]; decide),List.take_replicate,List.length_replicate,List.length_replicate]
    have hd : List.drop (k + min (n - k) k) (List.replicate k e ++ List.replicate (n - k) z) = List.replicate (n - (k + min (n - k) k)) z := by
     rw [List.drop_append,List.drop_of_length_le (by simp),List.drop_replicate,List.nil_append,List.length_replicate]
     congr 1
     omega
    rw [hd,List.replicate_append_replicate]
    have hmn : Nat.min k (n - k) = min (n - k) k := Nat.min_comm _ _
    rw [hmn,show ((k : Nat) : Int) + ((min (n - k) k : Nat) : Int) = ((k + min (n - k) k : Nat) : Int) by omega,zap (by omega) (by omega)]
    exact zw7 he n hn (m - 1) (k + min (n - k) k) (by omega) (by omega) (by omega)
   ·have : k = n := by omega
    subst this
    rw [if_neg (by simp),Nat.sub_self,List.replicate_zero,hbj]
termination_by m k => n - k
theorem zyi {e : List PV} (he : e.length = 3 ∧ e.all PV.plain = true) {n : Nat} (h1 : 1 ≤ n) (h : n ≤ 64) : jm Cω 63 [.psl false [e],.int .i64 (n : Nat)] = some (.psl false (List.replicate n e)) := by
 have hw := (zp5 ⟨n,by omega⟩).2
 simp only at hw
 have hw1 : IntKind.wrap .u64 (((List.length [e] : Nat)) : Int) = 1 := (by show IntKind.wrap .u64 1 = 1; decide)
 have hwi : IntKind.wrap .i64 ((n : Nat) : Int) = (n : Nat) := zap (by omega) (by omega)
 have hd := zu6 [e] (n : Nat) (fun x ee s => match x with | .normal => qh cfg za5 Cω Lω 63 0 zx7 ee s (znn Try.prog [] zxs 0) | x => znn Try.prog [] zxs 0 x ee s)
 rw [if_neg (by simp),hw,hw1,zyk h] at hd
 simp only [zb,zc,ye,xb,xc,y1,yq,zo,yl,ym,yk,zm,zx,yd,yp,xw,zy,zl,yf,yo,zr,z6,zz,yn,yz,yy,xd,xe,yw,yx,yr,yg,yv,yh,yu,yt,vn,za,ya,y9] at hd
 have ev := zv6 [e] (n : Nat)
 rw [zag,hd] at ev
 have hrow : zt 3 [e] = true := by
  unfold zt
  simp [he.1,he.2]
 have tl := zt5 [e] (n : Nat) (n : Nat)
 rw [hw,hw1] at tl
 rw [if_neg (by simp; omega),hwi,if_pos ⟨by omega,rfl,by omega,by omega⟩,if_neg (by rw [hrow]; decide)] at tl
 simp only [hax,List.length_replicate,List.length_cons,List.length_nil,hb4,List.take_zero,List.nil_append] at tl
 have hmin : Nat.min 1 n = 1 := Nat.min_eq_left h1
 have ht : List.take n [e] = [e] := hbi (by simp; omega)
 rw [hmin,ht] at tl
 simp only [List.length_cons,List.length_nil,hb4,List.drop_replicate] at tl
 have lp := zw7 (z := [.int .i64 0,.bool false,.bool false]) he n (by omega) n 1 (by omega) (by omega) h1
 simp only [List.replicate_succ,List.replicate_zero] at lp
 rw [lp] at tl
 simp only [zb,zc,ye,xb,xc,y1,yq,zo,yl,ym,yk,zm,zx,yd,yp,xw,zy,zl,yf,yo,zr,z6,zz,yn,yz,yy,xd,xe,yw,yx,yr,yg,yv,yh,yu,yt,vn,za,ya,y9,zcm (show 7 < 48 by decide)] at tl
 exact pc (ev.trans (tl.trans rfl)) rfl
end Go.Pvm.S
