/- Part of the proof: keys: one zero, one that is no number; ranks; pages: the program's and the document's. -/
import Derived.Test.YtjfgklgcbogejaaGreatKL
import Derived.Test.YtjfgklgcbogejaaGreatEqK
import Derived.Test.YtjfgklgcbogejaaGreatProg
import Derived.KernelRfl
import Derived.Test.YtjfgklgcbogejaaGreatEqK2
import Derived.Test.YtjfgklgcbogejaaGreatEqK3
import Derived.Test.YtjfgklgcbogejaaGreatEqK4
import Derived.Test.YtjfgklgcbogejaaGreatEqK5
import Derived.Test.YtjfgklgcbogejaaGreatEqK7
import Derived.Test.YtjfgklgcbogejaaGreatFlt
set_option linter.unusedSimpArgs false
set_option linter.unusedVariables false
set_option maxRecDepth 100000
namespace Go.Pvm.S
open Go.Pvm Go.Proofs
abbrev Wd := BitVec 64
theorem Wd.lt (q : Wd) : q.toNat < 18446744073709551616 := q.isLt
def zrl (q : Wd) : Wd := BitVec.ofNat 64 (zrk q.toNat)
theorem zg3 (q : Wd) : (zrl q).toNat = zrk q.toNat := by
 unfold zrl
 rw [BitVec.toNat_ofNat]
 exact Nat.mod_eq_of_lt (zlk q.lt)
def jl (q : Wd) : Nat := zo6 q.toNat
theorem zq0 (q : Wd) : jl q < 18446744073709551616 := zyu q.lt
theorem ybj (b c : Nat) : zch Tryz.prog .eql 29 (.float .f64 b) (.float .f64 c) = some (.bool (Op.floatEq .f64 b c)) := rfl
theorem ybi (b c : Nat) : zch Tryz.prog .neq 29 (.float .f64 b) (.float .f64 c) = some (.bool (!Op.floatEq .f64 b c)) := rfl
theorem zyj (q : Wd) : yo Cω 101 [.float .f64 q.toNat] = some (.float .f64 (zrl q).toNat) := by
 have e1 := z6i Cω Lω q.toNat
 rw [ybi,znv,Bool.not_not] at e1
 simp only [zb,ze] at e1
 have e2 := z6u Cω Lω q.toNat
 have e3 : yo Cω 180 [.float .f64 q.toNat] = some (.bool (nanW q.toNat)) := pc e1 rfl
 rw [e3] at e2
 simp only [zb,ze] at e2
 have ev := z7g Cω Lω q.toNat
 rw [ybj,znu q.lt] at ev
 simp only [zb,ze,decide_eq_true_eq] at ev
 rw [zg3]
 unfold zrk
 by_cases h : q.toNat % 9223372036854775808 = 0
 ·rw [if_pos h] at ev ⊢
  exact pc ev rfl
 ·rw [if_neg h] at ev ⊢
  by_cases h2 : nanW q.toNat = true
  ·rw [if_pos h2] at e2 ⊢
   have h9 : yo Cω 151 [.float .f64 q.toNat] = some (.float .f64 9221120237041090561) := pc e2 rfl
   rw [h9] at ev
   simp only [zw,ze,ya,yk,yl,zu,zt,zf,zq,zx,zy,za,zh,zl,z8,yn,zi,zd,zm,z6,zg,zk,zj,zp,yh,zr,yi,ym,yf,yg,yb,zn,ye,zo,yd,yc,yp,zb,z7,yj] at ev
   exact pc ev rfl
  ·rw [if_neg h2] at e2 ⊢
   have h9 : yo Cω 151 [.float .f64 q.toNat] = some (.float .f64 q.toNat) := pc e2 rfl
   rw [h9] at ev
   simp only [zw,ze,ya,yk,yl,zu,zt,zf,zq,zx,zy,za,zh,zl,z8,yn,zi,zd,zm,z6,zg,zk,zj,zp,yh,zr,yi,ym,yf,yg,yb,zn,ye,zo,yd,yc,yp,zb,z7,yj] at ev
   exact pc ev rfl
theorem ybh (q : Wd) : BitVec.ofInt (IntKind.bits .u64) ((q.toNat : Nat) : Int) = q := by
 show BitVec.ofInt 64 _ = q
 rw [BitVec.ofInt_natCast,BitVec.ofNat_toNat,BitVec.setWidth_eq]
theorem z7q (q : Wd) : BitVec.ofInt 64 ((q.toNat : Nat) : Int) = q := ybh q
theorem zzz (q : Wd) : ((q &&& BitVec.ofInt 64 9223372036854775808).toNat = 0 ↔ q.toNat < 9223372036854775808) := by
 have e : (BitVec.ofInt 64 9223372036854775808) = BitVec.twoPow 64 63 := by decide
 have hm : q.getLsbD 63 = decide (9223372036854775808 ≤ q.toNat) := by
  have h1 : q.msb = decide (2 ^ (64 - 1) ≤ q.toNat) := BitVec.msb_eq_decide q
  rw [BitVec.msb_eq_getLsbD_last] at h1
  exact h1
 rw [e,BitVec.and_twoPow,hm]
 by_cases h : 9223372036854775808 ≤ q.toNat
 ·rw [decide_eq_true h,if_pos rfl]
  constructor
  ·intro h9; exact absurd h9 (by decide)
  ·intro h9; omega
 ·rw [decide_eq_false h,if_neg (by decide)]
  constructor
  ·intro _; omega
  ·intro _; rfl
theorem zyv (q : Wd) : yw cfg y9 Cω Lω 153 [.float .f64 q.toNat] [] =
  (yo Cω 101 [.float .f64 q.toNat]).bind fun v => zev .f64 v fun n => if ((IntKind.wrap .u64 (((BitVec.ofInt 64 ((n : Nat) : Int) &&& BitVec.ofInt 64 9223372036854775808 : BitVec 64).toNat : Nat) : Int)) != 0) = true then (some ((.int .u64 (IntKind.wrap .u64 (((BitVec.ofInt 64 (IntKind.max .u64) ^^^ BitVec.ofInt 64 ((n : Nat) : Int) : BitVec 64).toNat : Nat) : Int))),[])) else (some ((.int .u64 (IntKind.wrap .u64 (((BitVec.ofInt 64 ((n : Nat) : Int) ||| BitVec.ofInt 64 9223372036854775808 : BitVec 64).toNat : Nat) : Int))),[])) := z6s Cω Lω q.toNat
theorem z1o (q : Wd) : yo Cω 153 [.float .f64 q.toNat] = some (.int .u64 (jl q : Nat)) := by
 have ev := zyv q
 rw [zyj] at ev
 simp only [zb,zx,z7q] at ev
 have hk := (zrl q).lt
 have hkn := zg3 q
 unfold jl zo6
 rw [← hkn]
 generalize zrl q = k at *
 have ha := zzz k
 by_cases h : k.toNat < 9223372036854775808
 ·have h0 : IntKind.wrap .u64 (((k &&& BitVec.ofInt 64 9223372036854775808).toNat : Nat) : Int) = 0 := by
   rw [show (k &&& BitVec.ofInt 64 9223372036854775808).toNat = 0 from ha.2 h]; decide
  rw [h0,if_neg (by decide)] at ev
  rw [if_neg (by omega)]
  have e : (BitVec.ofInt 64 9223372036854775808).toNat = 2 ^ 63 * 1 := by decide
  have ho : (k ||| BitVec.ofInt 64 9223372036854775808).toNat = k.toNat + 9223372036854775808 := by
   rw [BitVec.toNat_or,e,Nat.or_comm,← Nat.two_pow_add_eq_or_of_lt (i := 63) (by omega)]
   omega
  rw [ho,zgl (by omega) (by omega)] at ev
  exact pc ev rfl
 ·have h0 : (IntKind.wrap .u64 (((k &&& BitVec.ofInt 64 9223372036854775808).toNat : Nat) : Int) != 0) = true := by
   rw [bne_iff_ne,zgl (by omega) (by have := (k &&& BitVec.ofInt 64 9223372036854775808).isLt; omega)]
   intro h9
   exact h (ha.1 (by show (k &&& BitVec.ofInt 64 9223372036854775808).toNat = 0; omega))
  rw [if_pos h0] at ev
  rw [if_pos (by omega)]
  have e : BitVec.ofInt 64 (IntKind.max .u64) = BitVec.allOnes 64 := by decide
  rw [e,BitVec.xor_comm] at ev
  have hx : (k ^^^ BitVec.allOnes 64).toNat = 18446744073709551615 - k.toNat := by
   rw [BitVec.xor_allOnes,BitVec.toNat_not]
  rw [hx,zgl (by omega) (by omega)] at ev
  exact pc ev rfl
def zol (a b : Nat) : Int := if a < b then -1 else if a > b then 1 else 0
theorem zms (a b : Wd) : yo Cω 102 [.float .f64 a.toNat,.float .f64 b.toNat] = some (.int .i64 (zol (jl a) (jl b))) := by
 have hn : ∀ z,yo Cω 181 [.int .u64 z] = some (.bool false) := fun z => pc (z6h Cω Lω z) (by show PV.bool (z != z) = _; rw [bne_self_eq_false])
 have hc : yo Cω 152 [.int .u64 (jl a : Nat),.int .u64 (jl b : Nat)] = some (.int .i64 (zol (jl a) (jl b))) := by
  have ev := z6t Cω Lω (jl a : Nat) (jl b : Nat)
  simp only [hn,zw,ze,ya,yk,yl,zu,zt,zf,zq,zx,zy,za,zh,zl,z8,yn,zi,zd,zm,z6,zg,zk,zj,zp,yh,zr,yi,ym,yf,yg,yb,zn,ye,zo,yd,yc,yp,zb,z7,yj,Bool.false_eq_true,if_false,decide_eq_true_eq] at ev
  unfold zol
  by_cases h : jl a < jl b
  ·rw [if_pos (by omega)] at ev
   rw [if_pos h]
   exact pc ev rfl
  ·rw [if_neg (by omega)] at ev
   rw [if_neg h]
   by_cases h2 : jl a > jl b
   ·rw [if_pos (by omega)] at ev
    rw [if_pos h2]
    exact pc ev rfl
   ·rw [if_neg (by omega)] at ev
    rw [if_neg h2]
    exact pc ev rfl
 have ev := z7f Cω Lω a.toNat b.toNat
 simp only [z1o,zw,ze,ya,yk,yl,zu,zt,zf,zq,zx,zy,za,zh,zl,z8,yn,zi,zd,zm,z6,zg,zk,zj,zp,yh,zr,yi,ym,yf,yg,yb,zn,ye,zo,yd,yc,yp,zb,z7,yj,hc] at ev
 exact pc ev rfl
def wx (q : Wd) : Nat := jl q / 2305843009213693952
theorem zq7 (q : Wd) : wx q < 8 := by
 have := zq0 q
 unfold wx
 omega
theorem zmr (q : Wd) : yo Cω 103 [.float .f64 q.toNat] = some (.int .i64 (wx q : Nat)) := by
 have ev := z7e Cω Lω q.toNat
 have hr := zq0 q
 rw [z1o] at ev
 simp only [zw,ze,ya,yk,yl,zu,zt,zf,zq,zx,zy,za,zh,zl,z8,yn,zi,zd,zm,z6,zg,zk,zj,zp,yh,zr,yi,ym,yf,yg,yb,zn,ye,zo,yd,yc,yp,zb,z7,yj] at ev
 have e : (2 : Int) ^ (min (Int.toNat 61) (IntKind.bits .u64)) = 2305843009213693952 := by decide
 rw [e,Int.fdiv_eq_ediv_of_nonneg _ (by decide),qz (by omega) (by omega)] at ev
 refine pc ev ?_
 show PV.int .i64 _ = _
 congr 1
end Go.Pvm.S
