/- Part of the proof: keys: one zero, one that is no number; ranks; pages: the program's and the document's. -/
import Derived.Test.YtjfgklgcbogejaaGreatKL
import Derived.Test.YtjfgklgcbogejaaGreatEqK1
import Derived.Test.YtjfgklgcbogejaaGreatEqK2
import Derived.Test.YtjfgklgcbogejaaGreatEqK3
import Derived.Test.YtjfgklgcbogejaaGreatEqK4
import Derived.Test.YtjfgklgcbogejaaGreatEqK5
import Derived.Test.YtjfgklgcbogejaaGreatEqK
import Derived.Test.YtjfgklgcbogejaaGreatProg
import Derived.KernelRfl
import Derived.Test.YtjfgklgcbogejaaGreatEqK7
import Derived.Test.YtjfgklgcbogejaaGreatFlt
set_option linter.unusedSimpArgs false
set_option linter.unusedVariables false
set_option maxRecDepth 100000
namespace Go.Pvm.S
open Go.Pvm Go.Proofs
abbrev Wd := BitVec 64
theorem Wd.lt (q : Wd) : q.toNat < 18446744073709551616 := q.isLt
def zp9 (q : Wd) : Wd := BitVec.ofNat 64 (zp8 q.toNat)
theorem zgq (q : Wd) : (zp9 q).toNat = zp8 q.toNat := by
 unfold zp9
 rw [BitVec.toNat_ofNat]
 exact Nat.mod_eq_of_lt (zkq q.lt)
def qg (q : Wd) : Nat := zn4 q.toNat
theorem zwz (q : Wd) : qg q < 18446744073709551616 := zwy q.lt
theorem z8g (b c : Nat) : zed Tryz.prog .eql 29 (.float .f64 b) (.float .f64 c) = some (.bool (Op.floatEq .f64 b c)) := rfl
theorem z8f (b c : Nat) : zed Tryz.prog .neq 29 (.float .f64 b) (.float .f64 c) = some (.bool (!Op.floatEq .f64 b c)) := rfl
theorem zwn (q : Wd) : yn Cω 101 [.float .f64 q.toNat] = some (.float .f64 (zp9 q).toNat) := by
 have e1 := z3t Cω Lω q.toNat
 rw [z8f,zmv,Bool.not_not] at e1
 simp only [zb,ze] at e1
 have e2 := z35 Cω Lω q.toNat
 have e3 : yn Cω 180 [.float .f64 q.toNat] = some (.bool (nanW q.toNat)) := pc e1 rfl
 rw [e3] at e2
 simp only [zb,ze] at e2
 have ev := z4q Cω Lω q.toNat
 rw [z8g,zmu q.lt] at ev
 simp only [zb,ze,decide_eq_true_eq] at ev
 rw [zgq]
 unfold zp8
 by_cases h : q.toNat % 9223372036854775808 = 0
 ·rw [if_pos h] at ev ⊢
  exact pc ev rfl
 ·rw [if_neg h] at ev ⊢
  by_cases h2 : nanW q.toNat = true
  ·rw [if_pos h2] at e2 ⊢
   have h9 : yn Cω 151 [.float .f64 q.toNat] = some (.float .f64 9221120237041090561) := pc e2 rfl
   rw [h9] at ev
   simp only [zw,ze,z8,yj,yk,zu,zt,zf,zq,zx,zy,za,zh,zl,z7,ym,zi,zd,zm,zz,zg,zk,zj,zp,yg,zr,yh,yl,ye,yf,ya,zn,yd,zo,yc,yb,yp,zb,z6,yi] at ev
   exact pc ev rfl
  ·rw [if_neg h2] at e2 ⊢
   have h9 : yn Cω 151 [.float .f64 q.toNat] = some (.float .f64 q.toNat) := pc e2 rfl
   rw [h9] at ev
   simp only [zw,ze,z8,yj,yk,zu,zt,zf,zq,zx,zy,za,zh,zl,z7,ym,zi,zd,zm,zz,zg,zk,zj,zp,yg,zr,yh,yl,ye,yf,ya,zn,yd,zo,yc,yb,yp,zb,z6,yi] at ev
   exact pc ev rfl
theorem z8e (q : Wd) : BitVec.ofInt (IntKind.bits .u64) ((q.toNat : Nat) : Int) = q := by
 show BitVec.ofInt 64 _ = q
 rw [BitVec.ofInt_natCast,BitVec.ofNat_toNat,BitVec.setWidth_eq]
theorem z4v (q : Wd) : BitVec.ofInt 64 ((q.toNat : Nat) : Int) = q := z8e q
theorem zx2 (q : Wd) : ((q &&& BitVec.ofInt 64 9223372036854775808).toNat = 0 ↔ q.toNat < 9223372036854775808) := by
 have e : (BitVec.ofInt 64 9223372036854775808) = BitVec.twoPow 64 63 := by decide
 have hm : q.getLsbD 63 = decide (9223372036854775808 ≤ q.toNat) := by
  have h1 : q.msb = decide (2 ^ (64 - 1) ≤ q.toNat) := BitVec.msb_eq_decide q
  rw [BitVec.msb_eq_getLsbD_last] at h1
  exact h1
 rw [e,BitVec.and_twoPow,hm]
 by_cases h : 9223372036854775808 ≤ q.toNat
 ·rw [decide_eq_true h,if_pos rfl]
  constructor
  ·intro h9; exact absurd h9 (by decide)
  ·intro h9; omega
 ·rw [decide_eq_false h,if_neg (by decide)]
  constructor
  ·intro _; omega
  ·intro _; rfl
theorem zw0 (q : Wd) : yu cfg xa Cω Lω 153 [.float .f64 q.toNat] [] =
  (yn Cω 101 [.float .f64 q.toNat]).bind fun v => zeg .f64 v fun n => if ((IntKind.wrap .u64 (((BitVec.ofInt 64 ((n : Nat) : Int) &&& BitVec.ofInt 64 9223372036854775808 : BitVec 64).toNat : Nat) : Int)) != 0) = true then (some ((.int .u64 (IntKind.wrap .u64 (((BitVec.ofInt 64 (IntKind.max .u64) ^^^ BitVec.ofInt 64 ((n : Nat) : Int) : BitVec 64).toNat : Nat) : Int))),[])) else (some ((.int .u64 (IntKind.wrap .u64 (((BitVec.ofInt 64 ((n : Nat) : Int) ||| BitVec.ofInt 64 9223372036854775808 : BitVec 64).toNat : Nat) : Int))),[])) := z33 Cω Lω q.toNat
theorem zzm (q : Wd) : yn Cω 153 [.float .f64 q.toNat] = some (.int .u64 (qg q : Nat)) := by
 have ev := zw0 q
 rw [zwn] at ev
 simp only [zb,zx,z4v] at ev
 have hk := (zp9 q).lt
 have hkn := zgq q
 unfold qg zn4
 rw [← hkn]
 generalize zp9 q = k at *
 have ha := zx2 k
 by_cases h : k.toNat < 9223372036854775808
 ·have h0 : IntKind.wrap .u64 (((k &&& BitVec.ofInt 64 9223372036854775808).toNat : Nat) : Int) = 0 := by
   rw [show (k &&& BitVec.ofInt 64 9223372036854775808).toNat = 0 from ha.2 h]; decide
  rw [h0,if_neg (by decide)] at ev
  rw [if_neg (by omega)]
  have e : (BitVec.ofInt 64 9223372036854775808).toNat = 2 ^ 63 * 1 := by decide
  have ho : (k ||| BitVec.ofInt 64 9223372036854775808).toNat = k.toNat + 9223372036854775808 := by
   rw [BitVec.toNat_or,e,Nat.or_comm,← Nat.two_pow_add_eq_or_of_lt (i := 63) (by omega)]
   omega
  rw [ho,zf6 (by omega) (by omega)] at ev
  exact pc ev rfl
 ·have h0 : (IntKind.wrap .u64 (((k &&& BitVec.ofInt 64 9223372036854775808).toNat : Nat) : Int) != 0) = true := by
   rw [bne_iff_ne,zf6 (by omega) (by have := (k &&& BitVec.ofInt 64 9223372036854775808).isLt; omega)]
   intro h9
   exact h (ha.1 (by show (k &&& BitVec.ofInt 64 9223372036854775808).toNat = 0; omega))
  rw [if_pos h0] at ev
  rw [if_pos (by omega)]
  have e : BitVec.ofInt 64 (IntKind.max .u64) = BitVec.allOnes 64 := by decide
  rw [e,BitVec.xor_comm] at ev
  have hx : (k ^^^ BitVec.allOnes 64).toNat = 18446744073709551615 - k.toNat := by
   rw [BitVec.xor_allOnes,BitVec.toNat_not]
  rw [hx,zf6 (by omega) (by omega)] at ev
  exact pc ev rfl
def zsa (a b : Nat) : Int := if a < b then -1 else if a > b then 1 else 0
theorem ztb (a b : Wd) : yn Cω 102 [.float .f64 a.toNat,.float .f64 b.toNat] = some (.int .i64 (zsa (qg a) (qg b))) := by
 have hn : ∀ z,yn Cω 181 [.int .u64 z] = some (.bool false) := fun z => pc (z3s Cω Lω z) (by show PV.bool (z != z) = _; rw [bne_self_eq_false])
 have hc : yn Cω 152 [.int .u64 (qg a : Nat),.int .u64 (qg b : Nat)] = some (.int .i64 (zsa (qg a) (qg b))) := by
  have ev := z34 Cω Lω (qg a : Nat) (qg b : Nat)
  simp only [hn,zw,ze,z8,yj,yk,zu,zt,zf,zq,zx,zy,za,zh,zl,z7,ym,zi,zd,zm,zz,zg,zk,zj,zp,yg,zr,yh,yl,ye,yf,ya,zn,yd,zo,yc,yb,yp,zb,z6,yi,Bool.false_eq_true,if_false,decide_eq_true_eq] at ev
  unfold zsa
  by_cases h : qg a < qg b
  ·rw [if_pos (by omega)] at ev
   rw [if_pos h]
   exact pc ev rfl
  ·rw [if_neg (by omega)] at ev
   rw [if_neg h]
   by_cases h2 : qg a > qg b
   ·rw [if_pos (by omega)] at ev
    rw [if_pos h2]
    exact pc ev rfl
   ·rw [if_neg (by omega)] at ev
    rw [if_neg h2]
    exact pc ev rfl
 have ev := z4p Cω Lω a.toNat b.toNat
 simp only [zzm,zw,ze,z8,yj,yk,zu,zt,zf,zq,zx,zy,za,zh,zl,z7,ym,zi,zd,zm,zz,zg,zk,zj,zp,yg,zr,yh,yl,ye,yf,ya,zn,yd,zo,yc,yb,yp,zb,z6,yi,hc] at ev
 exact pc ev rfl
def zhc (q : Wd) : Nat := qg q / 2305843009213693952
theorem zzo (q : Wd) : yn Cω 103 [.float .f64 q.toNat] = some (.int .i64 (zhc q : Nat)) := by
 have ev := z4o Cω Lω q.toNat
 have hr := zwz q
 rw [zzm] at ev
 simp only [zw,ze,z8,yj,yk,zu,zt,zf,zq,zx,zy,za,zh,zl,z7,ym,zi,zd,zm,zz,zg,zk,zj,zp,yg,zr,yh,yl,ye,yf,ya,zn,yd,zo,yc,yb,yp,zb,z6,yi] at ev
 have e : (2 : Int) ^ (min (Int.toNat 61) (IntKind.bits .u64)) = 2305843009213693952 := by decide
 rw [e,Int.fdiv_eq_ediv_of_nonneg _ (by decide),q8 (by omega) (by omega)] at ev
 refine pc ev ?_
 show PV.int .i64 _ = _
 congr 1
end Go.Pvm.S
